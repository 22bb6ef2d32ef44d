/- Heyting algebras, of the reference: inverses and partial orders of up to thirty elements. Written by gen18C.py. -/
import Derived.Test.YtgkogfjifcfkoaaGreatY11
namespace Go.Proofs.YtgkogfjifcfkoaaGreat
open Go.RowKit
set_option linter.unusedVariables false
set_option linter.unusedSimpArgs false
/-- the masks of those that see a world, half filled: the worlds before x, and of x what comes before y -/
def ivM (ns : List Nat) (x y : Nat) : List Nat := (List.range ns.length).map fun i => if i < x then msk (fun j => (ns.getD j 0).testBit i) ns.length else if i = x then msk (fun j => (ns.getD j 0).testBit x) y else 0
theorem ivM_length (ns : List Nat) (x y : Nat) : (ivM ns x y).length = ns.length := by simp [ivM]
theorem ivM_get (ns : List Nat) (x y : Nat) {i : Nat} (hi : i < ns.length) : (ivM ns x y).getD i 0 = if i < x then msk (fun j => (ns.getD j 0).testBit i) ns.length else if i = x then msk (fun j => (ns.getD j 0).testBit x) y else 0 := by
  unfold ivM
  rw [List.getD_eq_getElem?_getD, List.getElem?_map, List.getElem?_range hi]
  rfl
theorem ivM_zero (ns : List Nat) : List.replicate ns.length 0 = ivM ns 0 0 := by
  apply List.ext_getElem
  · simp [ivM]
  · intro i h1 h2
    rw [List.getElem_replicate]
    simp only [ivM, List.getElem_map, List.getElem_range]
    rw [if_neg (by omega)]
    split <;> rfl
theorem ivM_next (ns : List Nat) (x : Nat) : ivM ns x ns.length = ivM ns (x + 1) 0 := by
  unfold ivM
  refine List.map_congr_left fun i hi => ?_
  rcases Nat.lt_trichotomy i x with h | h | h
  · rw [if_pos h, if_pos (by omega)]
  · subst h; rw [if_neg (by omega), if_pos rfl, if_pos (by omega)]
  · rw [if_neg (by omega), if_neg (by omega), if_neg (by omega)]
    split <;> rfl
theorem ivM_end (ns : List Nat) : ivM ns ns.length 0 = inv ns := by
  unfold ivM inv lnk
  refine List.map_congr_left fun i hi => ?_
  rw [if_pos (List.mem_range.1 hi)]
theorem ivM_no (ns : List Nat) (x y : Nat) (h : (ns.getD y 0).testBit x = false) : ivM ns x (y + 1) = ivM ns x y := by
  unfold ivM
  refine List.map_congr_left fun i hi => ?_
  split
  · rfl
  · split
    · rw [msk, h]; simp
    · rfl
theorem ivM_yes (ns : List Nat) (x y : Nat) (hx : x < ns.length) (h : (ns.getD y 0).testBit x = true) : ivM ns x (y + 1) = (ivM ns x y).set x (msk (fun j => (ns.getD j 0).testBit x) y ||| 2 ^ y) := by
  apply List.ext_getElem
  · simp [ivM]
  · intro i h1 h2
    rw [List.getElem_set]
    simp only [ivM, List.getElem_map, List.getElem_range]
    by_cases e : x = i
    · subst e
      rw [if_pos rfl, if_neg (by omega), if_pos rfl, msk, h]; rfl
    · rw [if_neg e]
      split
      · rfl
      · rw [if_neg (fun h => e h.symm), if_neg (fun h => e h.symm)]
theorem li_setM (l : List Nat) (i x : Nat) : li (l.set i x) = (li l).set i (x : Int) := by
  unfold li; rw [List.map_set]
set_option maxRecDepth 100000 in
set_option maxHeartbeats 1000000 in
theorem spec_l01InverseM (v : Value) (ns : List Nat) (w : World) (h : Sl cI w v (li ns)) (hr : RelM ns) :
    Calls Tryz.prog 160 #[v] w fun e w' => ∃ u, e = .returned u ∧ Ow cI 2 w.heap.size w' u (li (inv ns)) ∧ Below w.heap.size w w' := by
  obtain ⟨A, c, rfl⟩ := h.opn
  have h8 := hr.1
  have EL := Lib.hid (li_length ns)
  rw [EL.out] at h ⊢
  have H0 := Lib.hid h
  have HX := Lib.hid (fun i => hr.lt i)
  have HNo := Lib.hid (fun x y => ivM_no ns x y)
  have HYes := Lib.hid (fun x y => ivM_yes ns x y)
  have HNx := Lib.hid (ivM_next ns)
  have HEn := Lib.hid (ivM_end ns)
  have HLn := Lib.hid (fun x y => ivM_length ns x y)
  have HGt := Lib.hid (fun x y (hx : x < ns.length) => ivM_get ns x y (i := x) hx)
  have HMs : Hid (∀ x y, y ≤ ns.length → msk (fun j => (ns.getD j 0).testBit x) y < 1073741824) := Lib.hid fun x y hy => Nat.lt_of_lt_of_le (msk_lt _ y) (two_pow_30 (by omega))
  have HZ := Lib.hid (ivM_zero ns)
  clear h hr
  go_enter Tryz.func160, Tryz.ntmps160
  go_wp2_with (at_make; refine stopHere ?_)
  refine goHere ?_
  refine mk_full (K := cI) w ty_int64 rfl _ _ rfl w.heap.size ns.length 0 rfl rfl rfl (by omega) (Nat.le_refl _) ?_
  intro w1 ho hg hb hz
  have EZ : List.replicate ns.length (0 : Int) = li (ivM ns 0 0) := by rw [← HZ.out]; unfold li; rw [List.map_replicate]; rfl
  rw [EZ] at ho
  have HO := Lib.hid ho
  have HB := Lib.hid hb
  clear ho hb hg hz EZ
  generalize ivM ns = tb at *
  go_wp2
  go_loopw [4, 5] (fun k _ wr => ∃ x : Nat, x ≤ ns.length ∧ k = .int .i64 x ∧ Ow cI 2 w.heap.size wr (.slice (some ⟨w.heap.size, 0, none⟩) ns.length ns.length) (li (tb x 0)) ∧ Below w.heap.size w wr) (fun k _ _ => ns.length - (intOf k).toNat)
  case atStart => exact ⟨0, Nat.zero_le _, rfl, HO.out, HB.out⟩
  case round =>
    obtain ⟨x, hx, rfl, ho, hb⟩ := hrel
    have HOx := Lib.hid ho
    have HBx := Lib.hid hb
    clear ho hb
    by_cases hxl : x < ns.length
    · generalize wr = wx at *
      go_wp2
      go_loopw [5] (fun k wr => ∃ y : Nat, y ≤ ns.length ∧ k = .int .i64 y ∧ Ow cI 2 w.heap.size wr (.slice (some ⟨w.heap.size, 0, none⟩) ns.length ns.length) (li (tb x y)) ∧ Below w.heap.size w wr) (fun k _ => ns.length - (intOf k).toNat)
      case atStart => exact ⟨0, Nat.zero_le _, rfl, HOx.out, HBx.out⟩
      case round =>
        obtain ⟨y, hy, rfl, ho, hb⟩ := hrel
        have HOy := Lib.hid ho
        have HBy := Lib.hid hb
        by_cases hyl : y < ns.length
        · obtain ⟨b, o, rfl, hbl, hc0⟩ := (H0.out.below hb).atI (k := y) (by rw [EL.out]; exact hyl)
          rw [li_get] at hc0
          have hm := HX.out y
          have hq := HMs.out x y hy
          have HN2 := Lib.hid (HNo.out x y)
          have HY2 := Lib.hid (HYes.out x y hxl)
          have hgx := HGt.out x y hxl
          simp only [Nat.lt_irrefl, if_false, if_true, eq_self] at hgx
          obtain ⟨m, hmm⟩ : ∃ m, ns.getD y 0 = m := ⟨_, rfl⟩
          rw [hmm] at hc0 hm HN2 HY2
          have hxt : x < (li (tb x y)).length := by rw [li_length, HLn.out]; exact hxl
          obtain ⟨hcx, hfx, hBx, hzx⟩ := ho.at1 rfl hxt (u := .int .i64 ((tb x y).getD x 0 : Nat)) (by rw [← li_get _ _ hxt]; rfl)
          rw [hgx] at hcx
          generalize msk (fun j => (ns.getD j 0).testBit x) y = q at *
          clear ho hb hmm hgx
          go_wp2_with fail
          refine (spec_l01Bit m x _ (by omega) (by omega)).mono ?_
          rintro e w3 ⟨rfl, rfl⟩
          cases ht : m.testBit x
          · have HO2 : Hid (Ow cI 2 w.heap.size wr (.slice (some ⟨w.heap.size, 0, none⟩) ns.length ns.length) (li (tb x (y + 1)))) := Lib.hid (by rw [HN2.out ht]; exact HOy.out)
            clear ht hc0 hcx hfx
            go_wp2
            go_roundw
            case rel => exact ⟨y + 1, by omega, by go_num, HO2.out, HBy.out⟩
            case measure => simp [intOf]; omega
          · have or1 := i64_or_nat q (2 ^ y) (by omega) (two_pow_lt (by omega))
            rw [← cast_two_pow] at or1
            have HOne : Hid (∀ W, Calls Tryz.prog 33 #[.int .i64 (y : Int)] W fun e w' => e = .returned (.int .i64 (2 ^ y)) ∧ W = w') := Lib.hid (fun W => by
              have := spec_l01One (y : Int) W (by omega) (by omega)
              rwa [Int.toNat_natCast] at this)
            have HSet : Hid (∀ W, Ow cI 2 w.heap.size W (.slice (some ⟨w.heap.size, 0, none⟩) ns.length ns.length) (li (tb x y)) → Ow cI 2 w.heap.size (W.setCell ⟨w.heap.size, x, none⟩ (.int .i64 ((q ||| 2 ^ y : Nat) : Int))) (.slice (some ⟨w.heap.size, 0, none⟩) ns.length ns.length) (li (tb x (y + 1)))) := Lib.hid fun W hW => by
              rw [HY2.out ht, li_setM]
              exact hW.set1 rfl rfl hxt
            generalize q ||| 2 ^ y = p at *
            have hcxd : wr.drew.cell? ⟨w.heap.size, x, none⟩ = some (.int .i64 (q : Nat)) := hcx
            have hfxd : wr.drew.frozen? ⟨w.heap.size, x, none⟩ = false := hfx
            clear ht hc0
            go_upto_region 9 with fail
            refine wp_region_sched (Below wr.heap.size wr) 10 [0, 1, 2, 3, 4, 5, 6, 8, 9] [0, 1, 2, 3, 4, 5, 6, 7, 8, 9] (by kernel_rfl) (by kernel_rfl) (Below.refl _ _).drew ?_
            repeat
              apply wpSched_q rfl rfl
              case h =>
                intro w' hI K hK
                have hcx' := (hI.cell (p := ⟨w.heap.size, x, none⟩) hzx).trans hcx
                simp only [quietV, stillV]
                go_simp
                exact hK
              go_simp
            refine wpSched_r rfl rfl ?_ (Below.refl _ _).drew
            intro K hK hI
            go_simp
            refine (HOne.out _).mono ?_
            rintro e w4 ⟨rfl, rfl⟩
            refine hK _ _ hI ?_
            clear hK K
            repeat
              apply wpSched_q rfl rfl
              case h =>
                intro w' hI K hK
                simp only [quietV, stillV]
                go_simp
                exact hK
              go_simp
            refine wpSched_nil ?_
            try simp only [List.drop_succ_cons, List.drop_zero, List.drop_nil]
            have HO3 := Lib.hid (HSet.out wr.drew HOy.out)
            have HB3 : Hid (∀ u, Below w.heap.size w (wr.drew.setCell ⟨w.heap.size, x, none⟩ u)) := Lib.hid fun u => HBy.out.drew.setCell (Nat.le_refl _) u
            change wpList _ _ _ _ _ wr.drew
            generalize wr.drew = wd at *
            clear hcx hfx hI
            go_wp2
            go_roundw
            case rel => exact ⟨y + 1, by omega, by go_num, HO3.out, HB3.out _⟩
            case measure => simp [intOf]; omega
        · obtain rfl : y = ns.length := by omega
          have HO2 : Hid (Ow cI 2 w.heap.size wr (.slice (some ⟨w.heap.size, 0, none⟩) ns.length ns.length) (li (tb (x + 1) 0))) := Lib.hid (by rw [← HNx.out]; exact ho)
          clear ho hb
          go_wp2
          go_roundw
          case rel => exact ⟨x + 1, by omega, by go_num, HO2.out, HBy.out⟩
          case measure => simp [intOf]; omega
    · obtain rfl : x = ns.length := by omega
      rw [HEn.out] at HOx
      go_wp2
      go_ret
      exact ⟨_, rfl, HOx.out, HBx.out⟩
theorem q_l01ImageM {v : Value} {ns : List Nat} {m : Nat} {W : World} (h : Sl cI W v (li ns)) (hr : RelM ns) (hm : m < 1073741824) (n : Nat) :
    Calls Tryz.prog 142 #[v, .int .i64 m] (W.drewN n) fun e w'' => e = .returned (.int .i64 (img ns m : Nat)) ∧ ∃ q, w'' = W.drewN q :=
  (spec_l01ImageM v ns m _ (h.drewN n) hr hm).mono fun e w' hh => ⟨hh.1, n, hh.2.symm⟩
def par1 (ns : List Nat) (x : Nat) : Prop := (ns.getD x 0).testBit x = true ∧ img ns (ns.getD x 0) = ns.getD x 0 ∧ ∀ y, y < x → ((ns.getD x 0).testBit y && (ns.getD y 0).testBit x) = false
instance (ns : List Nat) (x : Nat) : Decidable (par1 ns x) := by unfold par1; exact inferInstance
/-- a partial order -/
def par (ns : List Nat) : Bool := decide (∀ x, x < ns.length → par1 ns x)
set_option maxHeartbeats 1000000 in
set_option maxRecDepth 100000 in
theorem spec_l18Partial (v : Value) (ns : List Nat) (w : World) (h : Sl cI w v (li ns)) (hr : RelM ns) :
    Calls Tryz.prog 159 #[v] w fun e w' => e = .returned (.bool (par ns)) ∧ Below w.heap.size w w' := by
  obtain ⟨A0, c0, rfl⟩ := h.opn
  have h30 := hr.1
  have HL := Lib.hid (li_length ns)
  rw [HL.out] at h ⊢
  have HS := Lib.hid h
  have HX := Lib.hid (fun i => hr.lt i)
  have HIm := Lib.hid (fun m W n (hm : m < 1073741824) hW => q_l01ImageM (v := .slice A0 ns.length c0) (ns := ns) (m := m) (W := W) hW hr hm n)
  have HIl := Lib.hid (fun m => Nat.lt_of_lt_of_le (show img ns m < 2 ^ ns.length from imgTo_lt hr.2 m ns.length) (two_pow_30 h30))
  have ET : Hid ((∀ x, x < ns.length → par1 ns x) → par ns = true) := Lib.hid (fun hh => decide_eq_true hh)
  have EF : Hid (∀ x, x < ns.length → ¬ par1 ns x → par ns = false) := Lib.hid (fun x hx hn => decide_eq_false fun hh => hn (hh x hx))
  clear h hr
  go_enter Tryz.func159, Tryz.ntmps159
  go_wp2
  go_loopw [3] (fun i wr => ∃ x : Nat, x ≤ ns.length ∧ i = .int .i64 x ∧ (∀ x', x' < x → par1 ns x') ∧ Below w.heap.size w wr) (fun i _ => ns.length - (intOf i).toNat)
  case atStart => exact ⟨0, Nat.zero_le _, rfl, fun x' h => by omega, Below.refl _ _⟩
  case round =>
    obtain ⟨x, hx, rfl, hh, hb⟩ := hrel
    obtain ⟨w2, hw2⟩ : ∃ W, W = wr := ⟨_, rfl⟩
    subst hw2
    have HH := Lib.hid hh
    have HB := Lib.hid hb
    have HS2 := Lib.hid (HS.out.below hb)
    clear hh hb
    by_cases hlt : x < ns.length
    · obtain ⟨b, o, rfl, hbl, hcx⟩ := HS2.out.atI (k := x) (by rw [HL.out]; exact hlt)
      rw [li_get] at hcx
      have hx30 := HX.out x
      have HFx := Lib.hid (EF.out x hlt)
      have HQ1 := Lib.hid (fun W n => q_l01Bit (m := ns.getD x 0) (i := x) (by omega) (by omega) W n)
      have HQ2 := Lib.hid (fun n => HIm.out (ns.getD x 0) w2 n hx30 HS2.out)
      have hil := HIl.out (ns.getD x 0)
      have hneI := neI (img ns (ns.getD x 0)) (ns.getD x 0)
      have HP1 : Hid ((ns.getD x 0).testBit x = false → ¬ par1 ns x) := Lib.hid (fun h hp => by rw [hp.1] at h; cases h)
      have HP2 : Hid (img ns (ns.getD x 0) ≠ ns.getD x 0 → ¬ par1 ns x) := Lib.hid (fun h hp => h hp.2.1)
      have HP3 : Hid ((ns.getD x 0).testBit x = true → img ns (ns.getD x 0) = ns.getD x 0 → (∀ y, y < x → ((ns.getD x 0).testBit y && (ns.getD y 0).testBit x) = false) → par1 ns x) := Lib.hid (fun a b c => ⟨a, b, c⟩)
      have HP4 : Hid (∀ y, y < x → ((ns.getD x 0).testBit y && (ns.getD y 0).testBit x) = true → ¬ par1 ns x) := Lib.hid (fun y hy h hp => by rw [hp.2.2 y hy] at h; cases h)
      obtain ⟨m, hm⟩ : ∃ m, ns.getD x 0 = m := ⟨_, rfl⟩
      rw [hm] at hcx hx30 HQ1 HQ2 hil hneI HP1 HP2 HP3 HP4
      have HMX := Lib.hid hm
      clear hm
      generalize img ns m = r at *
      cases hbx : m.testBit x
      · have E := Lib.hid (HFx.out (HP1.out hbx))
        rw [hbx] at HQ1
        clear hneI
        go_wp2
        go_quiet ((go_at_call 103; exact HQ1.out _ _))
        go_wp2
        go_ret
        exact ⟨by rw [E.out]; rfl, below_drewN HB.out _⟩
      · rw [hbx] at HQ1
        replace HP3 := Lib.hid (HP3.out hbx)
        clear HP1 hbx
        by_cases hrm : r = m
        · rw [decide_eq_true hrm] at hneI
          replace HP3 := Lib.hid (HP3.out hrm)
          clear HP2 hrm
          go_wp2
          go_quiet ((first | (go_at_call 103; exact HQ1.out _ _) | (go_at_call 142; exact HQ2.out _)))
          have HB3 := Lib.hid (below_drewN HB.out nq)
          have HS3 := Lib.hid (HS2.out.drewN nq)
          clear HQ1 HQ2 hcx hneI
          generalize World.drewN w2 nq = w3 at *
          go_wp2
          go_loopw [4] (fun i wr => ∃ y : Nat, y ≤ x ∧ i = .int .i64 y ∧ (∀ y', y' < y → (m.testBit y' && (ns.getD y' 0).testBit x) = false) ∧ Below w.heap.size w wr) (fun i _ => x - (intOf i).toNat)
          case atStart => exact ⟨0, Nat.zero_le _, rfl, fun y' h => by omega, HB3.out⟩
          case round =>
            obtain ⟨y, hy, rfl, hh2, hb2⟩ := hrel
            obtain ⟨w4, hw4⟩ : ∃ W, W = wr := ⟨_, rfl⟩
            subst hw4
            have HH2 := Lib.hid hh2
            have HB4 := Lib.hid hb2
            have HS4 := Lib.hid (HS.out.below hb2)
            clear hh2 hb2
            by_cases hlt2 : y < x
            · obtain ⟨b', o', hE', hbl', hcx⟩ := HS4.out.atI (k := x) (by rw [HL.out]; exact hlt)
              obtain ⟨b2, o2, hE2, hbl2, hcy⟩ := HS4.out.atI (k := y) (by rw [HL.out]; omega)
              injection hE' with hE'
              injection hE' with hE1 hE3
              subst hE1; subst hE3
              injection hE2 with hE2
              injection hE2 with hE1 hE3
              subst hE1; subst hE3
              rw [li_get] at hcx hcy
              rw [HMX.out] at hcx
              have hy30 := HX.out y
              have HN : Hid ((m.testBit y && (ns.getD y 0).testBit x) = false → ∀ y', y' < y + 1 → (m.testBit y' && (ns.getD y' 0).testBit x) = false) := Lib.hid (fun hk y' hy' => by
                rcases Nat.lt_or_ge y' y with h1 | h1
                · exact HH2.out y' h1
                · obtain rfl : y' = y := by omega
                  exact hk)
              have HF := Lib.hid (fun hk => HFx.out (HP4.out y hlt2 hk))
              have HB1 := Lib.hid (spec_l01Bit m y w4 (by omega) (by omega))
              have HB2 := Lib.hid (spec_l01Bit (ns.getD y 0) x w4 (by omega) (by omega))
              generalize ns.getD y 0 = k at *
              go_wp2_with fail
              refine HB1.out.mono ?_
              rintro e _ ⟨rfl, rfl⟩
              cases h1 : m.testBit y
              · have E := Lib.hid (HN.out (by rw [h1]; rfl))
                clear h1
                go_wp2
                exact ⟨⟨y + 1, by omega, by go_num, E.out, HB4.out⟩, by simp [intOf]; omega⟩
              · rw [h1, Bool.true_and] at HN HF
                clear h1
                go_wp2_with fail
                refine HB2.out.mono ?_
                rintro e _ ⟨rfl, rfl⟩
                cases h2 : k.testBit x
                · have E := Lib.hid (HN.out h2)
                  clear h2
                  go_wp2
                  exact ⟨⟨y + 1, by omega, by go_num, E.out, HB4.out⟩, by simp [intOf]; omega⟩
                · have E := Lib.hid (HF.out h2)
                  clear h2
                  go_wp2
                  go_ret
                  exact ⟨by rw [E.out]; rfl, HB4.out⟩
            · obtain rfl : y = x := by omega
              have E := Lib.hid (HP3.out HH2.out)
              have HN : Hid (∀ x', x' < y + 1 → par1 ns x') := Lib.hid (fun x' hx' => by
                rcases Nat.lt_or_ge x' y with h1 | h1
                · exact HH.out x' h1
                · obtain rfl : x' = y := by omega
                  exact E.out)
              go_wp2
              exact ⟨⟨y + 1, by omega, by go_num, HN.out, HB4.out⟩, by simp [intOf]; omega⟩
        · rw [decide_eq_false hrm] at hneI
          have E := Lib.hid (HFx.out (HP2.out hrm))
          clear HP3 hrm
          go_wp2
          go_quiet ((first | (go_at_call 103; exact HQ1.out _ _) | (go_at_call 142; exact HQ2.out _)))
          clear HQ1 HQ2 hcx hneI
          go_wp2
          go_ret
          exact ⟨by rw [E.out]; rfl, below_drewN HB.out _⟩
    · obtain rfl : x = ns.length := by omega
      have E := Lib.hid (ET.out HH.out)
      go_wp2
      go_ret
      exact ⟨by rw [E.out]; rfl, HB.out⟩
end Go.Proofs.YtgkogfjifcfkoaaGreat

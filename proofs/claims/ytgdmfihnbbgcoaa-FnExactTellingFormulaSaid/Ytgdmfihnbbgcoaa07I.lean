/- Contracts of chapter 7, of the reference: the table of all telling formulas. -/
import Derived.Test.Ytgdmfihnbbgcoaa07H
import Derived.Test.YtgdmfihnbbgcoaaSch
namespace Go.Proofs.Ytgdmfihnbbgcoaa
open Go.RowKit
set_option linter.unusedVariables false
set_option linter.unusedSimpArgs false
theorem spec_l07Tell_all (ns us ks ts : List Nat) (A0 A1 B0 B1 L At : Option Addr) (c0 c1 d0 d1 lc ct x y k : Nat) (T : Nat → Nat → Option (List Nd)) (w : World) (hm : Mdl w (.slice A0 ns.length c0) (.slice A1 6 c1) ns us) (hm2 : Mdl w (.slice B0 ks.length d0) (.slice B1 6 d1) ks ts) (h1 : MdN ns us) (h2 : MdN ks ts) (hx : x < ns.length) (hy : y < ks.length) (hrd : rd ns us ks ts x y = some k)
    (hL : Sl2 cI w (.slice L 17 lc) (bdL ns us ks ts 16)) (hT : TdR w (.slice At ns.length ct) ns.length ks.length T) (hTT : ∀ i j k', i < ns.length → j < ks.length → rd ns us ks ts i j = some k' → k' < k → T i j = tab ns us ks ts k' i j) :
    Calls Try.prog 146 #[.agg #[.int .i64 ns.length, .slice A0 ns.length c0, .slice A1 6 c1], .agg #[.int .i64 ks.length, .slice B0 ks.length d0, .slice B1 6 d1], .slice L 17 lc, .slice At ns.length ct, .int .i64 x, .int .i64 y, .int .i64 k] w
      fun e w' => ∃ u, e = .returned u ∧ Ow cN 89 w.heap.size w' u ((tab ns us ks ts k x y).getD []) ∧ Below w.heap.size w w' := by
  cases k with
  | zero =>
    obtain ⟨v, hv⟩ := rd_zero hx hy hrd
    have h := spec_l07Tell_zero ns us ks ts A0 A1 B0 B1 c0 c1 d0 d1 x y v (.slice L 17 lc) (.slice At ns.length ct) w hm hm2 h1 h2 (by have := h1.r.1; omega) (by have := h2.r.1; omega) hv
    refine h.mono fun e w' ⟨u, he, ho, hb⟩ => ⟨u, he, ?_, hb⟩
    rw [tab, if_pos hrd, atomF, hv]
    exact ho
  | succ κ =>
    exact spec_l07Tell_succ ns us ks ts A0 A1 B0 B1 L At c0 c1 d0 d1 lc ct x y κ T w hm hm2 h1 h2 hx hy hrd hL hT fun i j k' hi hj hr hk => by
      rw [hTT i j k' hi hj hr (by omega), tab_at hr κ hk]
theorem rdI_eq (ns us ks ts : List Nat) (x y k : Nat) : (rdI ns us ks ts x y == (k : Int)) = decide (rd ns us ks ts x y = some k) := by
  rw [show rdI ns us ks ts x y = oI (rd ns us ks ts x y) by unfold rdI oI; rfl]
  cases rd ns us ks ts x y with
  | none => rw [show oI none = -1 from rfl]; simp
  | some j =>
    rw [show oI (some j) = (j : Int) from rfl, Bool.eq_iff_iff]
    simp; omega
/-- what the table holds: the rounds before k, of round k the rows before x, and of row x what comes before y -/
def TdOK (ns us ks ts : List Nat) (T : Nat → Nat → Option (List Nd)) (k x y : Nat) : Prop :=
  ∀ i j k', i < ns.length → j < ks.length → rd ns us ks ts i j = some k' → (k' < k ∨ k' = k ∧ (i < x ∨ i = x ∧ j < y)) → T i j = tab ns us ks ts k' i j
theorem TdOK.zero {ns us ks ts : List Nat} {T : Nat → Nat → Option (List Nd)} : TdOK ns us ks ts T 0 0 0 := fun i j k' _ _ _ h => by omega
theorem TdOK.nextX {ns us ks ts : List Nat} {T : Nat → Nat → Option (List Nd)} {k x : Nat} (h : TdOK ns us ks ts T k x ks.length) : TdOK ns us ks ts T k (x + 1) 0 := fun i j k' hi hj hr hk => h i j k' hi hj hr (by omega)
theorem TdOK.nextK {ns us ks ts : List Nat} {T : Nat → Nat → Option (List Nd)} {k : Nat} (h : TdOK ns us ks ts T k ns.length 0) : TdOK ns us ks ts T (k + 1) 0 0 := fun i j k' hi hj hr hk => h i j k' hi hj hr (by omega)
theorem TdOK.skip {ns us ks ts : List Nat} {T : Nat → Nat → Option (List Nd)} {k x y : Nat} (h : TdOK ns us ks ts T k x y) (hn : rd ns us ks ts x y ≠ some k) : TdOK ns us ks ts T k x (y + 1) := fun i j k' hi hj hr hk => by
  by_cases e : i = x ∧ j = y ∧ k' = k
  · obtain ⟨rfl, rfl, rfl⟩ := e; exact absurd hr hn
  · exact h i j k' hi hj hr (by omega)
theorem TdOK.put {ns us ks ts : List Nat} {T : Nat → Nat → Option (List Nd)} {k x y : Nat} (h : TdOK ns us ks ts T k x y) (hn : rd ns us ks ts x y = some k) : TdOK ns us ks ts (fun i j => if i = x ∧ j = y then tab ns us ks ts k x y else T i j) k x (y + 1) := fun i j k' hi hj hr hk => by
  by_cases e : i = x ∧ j = y
  · obtain ⟨rfl, rfl⟩ := e
    rw [hn] at hr
    injection hr with hr
    subst hr
    simp
  · simp only [if_neg e]
    exact h i j k' hi hj hr (by omega)
set_option maxRecDepth 100000 in
set_option maxHeartbeats 2000000 in
theorem spec_l07Told (ns us ks ts : List Nat) (A0 A1 B0 B1 L : Option Addr) (c0 c1 d0 d1 lc : Nat) (w : World) (hm : Mdl w (.slice A0 ns.length c0) (.slice A1 6 c1) ns us) (hm2 : Mdl w (.slice B0 ks.length d0) (.slice B1 6 d1) ks ts) (h1 : MdN ns us) (h2 : MdN ks ts) (hn0 : 0 < ns.length) (hk0 : 0 < ks.length)
    (hL : Sl2 cI w (.slice L 17 lc) (bdL ns us ks ts 16)) :
    Calls Try.prog 81 #[.agg #[.int .i64 ns.length, .slice A0 ns.length c0, .slice A1 6 c1], .agg #[.int .i64 ks.length, .slice B0 ks.length d0, .slice B1 6 d1], .slice L 17 lc] w
      fun e w' => ∃ vt T, e = .returned vt ∧ TdR w' vt ns.length ks.length T ∧ (∀ i j k', i < ns.length → j < ks.length → rd ns us ks ts i j = some k' → T i j = tab ns us ks ts k' i j) ∧ Below w.heap.size w w' := by
  have h8 := h1.r.1
  have hk8 := h2.r.1
  have hb0 := below_alloc' w (.cells #[.int .i64 ns.length, .slice A0 ns.length c0, .slice A1 6 c1] 62)
  have hc0 := Blk.new w 62 #[.int .i64 ns.length, .slice A0 ns.length c0, .slice A1 6 c1]
  have hb1 := below_alloc' (w.alloc (.cells #[.int .i64 ns.length, .slice A0 ns.length c0, .slice A1 6 c1] 62)) (.cells #[.int .i64 ks.length, .slice B0 ks.length d0, .slice B1 6 d1] 62)
  have hc1 : Blk _ (w.heap.size + 1) _ _ := Blk.new' (w.alloc (.cells #[.int .i64 ns.length, .slice A0 ns.length c0, .slice A1 6 c1] 62)) 62 #[.int .i64 ks.length, .slice B0 ks.length d0, .slice B1 6 d1] (by simp)
  have HB := Lib.hid (bthen hb0 hb1)
  have HK0 := Lib.hid (hc0.below hb1 hc0.lt)
  have HK1 := Lib.hid hc1
  have HRo := Lib.hid (fun x y (hx : x < ns.length) (hy : y < ks.length) W (hW : Below w.heap.size w W) => spec_l07Rounds ns us ks ts x y _ W (hL.below hW) hx hy hk8)
  have HTe := Lib.hid (fun x y k (hx : x < ns.length) (hy : y < ks.length) (hrd : rd ns us ks ts x y = some k) At ct T W (hW : Below w.heap.size w W) hT hTT => spec_l07Tell_all ns us ks ts A0 A1 B0 B1 L At c0 c1 d0 d1 lc ct x y k T W (hm.below hW) (hm2.below hW) h1 h2 hx hy hrd (hL.below hW) hT hTT)
  have HRE := Lib.hid (fun x y k => rdI_eq ns us ks ts x y k)
  have HEnd : Hid (∀ T, TdOK ns us ks ts T 17 0 0 → ∀ i j k', i < ns.length → j < ks.length → rd ns us ks ts i j = some k' → T i j = tab ns us ks ts k' i j) := Lib.hid fun T h i j k' hi hj hr => h i j k' hi hj hr (.inl (rd_spec hr).1)
  have HL17 := Lib.hid ((hL.below hb0).below hb1)
  clear hb0 hb1 hc0 hc1 hm hm2 h1 h2 hL
  go_enter Try.func81, Try.ntmps81
  go_upto_region 1 with fail
  generalize World.alloc (w.alloc _) _ = W at *
  have k0 := HK0.out.cell 0
  have j0 := HK1.out.cell 0
  have l0 := HK0.out.lt
  have l1 := HK1.out.lt
  simp only [List.getElem?_toArray, List.getElem?_cons_zero] at k0 j0
  have hO0 : Ow cH 30 W.heap.size (W.alloc (.cells #[] 30)) (.slice (some ⟨W.heap.size, 0, none⟩) 0 0) [] := Ow.lit [] rfl rfl (Nat.le_refl _)
  have HG0 : Hid (TdG W.heap.size (W.alloc (.cells #[] 30)) (.slice (some ⟨W.heap.size, 0, none⟩) 0 0) ks.length 0) := Lib.hid (TdG.nil hO0)
  have HBa : Hid (Below W.heap.size W (W.alloc (.cells #[] 30))) := Lib.hid (below_alloc' _ _)
  clear hO0
  go_wp2
  go_loopw [7, 8] (fun vt i wr => ∃ j : Nat, j ≤ ns.length ∧ i = .int .i64 j ∧ TdG W.heap.size wr vt ks.length j ∧ Below W.heap.size W wr) (fun _ i _ => ns.length - (intOf i).toNat)
  case atStart => exact ⟨0, Nat.zero_le _, rfl, HG0.out, HBa.out⟩
  case round =>
    obtain ⟨j, hj, rfl, hg, hbw⟩ := hrel
    have HBw := Lib.hid hbw
    have HG := Lib.hid hg
    have k0' := (hbw.cell (p := ⟨w.heap.size, 0, none⟩) l0).trans k0
    have j0' := (hbw.cell (p := ⟨w.heap.size + 1, 0, none⟩) l1).trans j0
    have l0' := Nat.lt_of_lt_of_le l0 hbw.size
    have l1' := Nat.lt_of_lt_of_le l1 hbw.size
    have hsz := hbw.size
    by_cases hlt : j < ns.length
    · clear hg hbw
      go_wp2_with (at_make; refine stopHere ?_)
      refine goHere ?_
      refine mk_full (K := cH) wr ty_nodes7 rfl _ _ rfl wr.heap.size ks.length (⟨none, 0, 0⟩ : Hd) rfl rfl rfl (by omega) (Nat.le_refl _) ?_
      intro w2 ho hgr hb hz
      obtain ⟨rows, hr1, hr2, hr3⟩ := HG.out.push hsz hgr hz (ho.mono hsz)
      have HR1 := Lib.hid hr1
      have HR3 := Lib.hid hr3
      have HB2 := Lib.hid (HBw.out.trans (hb.mono hsz))
      have hsz2 := HB2.out.size
      clear ho hgr hb hr1 hr3 HG
      go_wp2_with (at_builtin; refine stopHere ?_)
      refine goHere ?_
      refine ap_one (K := cH) _ ty_nodes3 rfl _ _ rfl (xs := rows) rfl HR1.out (⟨some ⟨wr.heap.size, 0, none⟩, ks.length, ks.length⟩ : Hd) rfl rfl (by omega) hsz2 ?_
      intro v1 w6 ho1 hg1 hb1 hat1
      have HG6 := Lib.hid (HR3.out w6 v1 _ _ ho1 hg1 hat1)
      have HB6 : Hid (Below W.heap.size W w6) := Lib.hid (HB2.out.trans hb1)
      clear ho1 hg1 hb1 hat1 HR1 HR3
      go_wp2
      go_roundw
      case rel => exact ⟨j + 1, by omega, by go_num, HG6.out, HB6.out⟩
      case measure => simp [intOf]; omega
    · obtain rfl : j = ns.length := by omega
      have htd := hg.td
      obtain ⟨At, ct, rfl⟩ := htd.rd.opn
      have HTd := Lib.hid htd
      clear hg hbw htd HG
      generalize wr = wM at *
      go_wp2
      go_loopw [9, 10, 11] (fun k _ _ wr2 => ∃ n : Nat, n ≤ 17 ∧ k = .int .i64 n ∧ ∃ T, TdW W.heap.size wM.heap.size wr2 (.slice At ns.length ct) ns.length ks.length T ∧ TdOK ns us ks ts T n 0 0 ∧ Below W.heap.size W wr2) (fun k _ _ _ => 17 - (intOf k).toNat)
      case atStart => exact ⟨0, Nat.zero_le _, rfl, _, HTd.out, TdOK.zero, HBw.out⟩
      case round =>
        obtain ⟨n, hn, rfl, T, ht, hok, hbw⟩ := hrel
        have HBk := Lib.hid hbw
        have HT := Lib.hid ht
        have HOK := Lib.hid hok
        clear ht hok hbw
        by_cases hlt : n < 17
        · have hlt17 : decide ((n : Int) < 17) = true := decide_eq_true (by omega)
          generalize wr = wk at *
          go_wp2
          go_loopw [10, 11] (fun i _ wr2 => ∃ x : Nat, x ≤ ns.length ∧ i = .int .i64 x ∧ ∃ T, TdW W.heap.size wM.heap.size wr2 (.slice At ns.length ct) ns.length ks.length T ∧ TdOK ns us ks ts T n x 0 ∧ Below W.heap.size W wr2) (fun i _ _ => ns.length - (intOf i).toNat)
          case atStart => exact ⟨0, Nat.zero_le _, rfl, T, HT.out, HOK.out, HBk.out⟩
          case round =>
            clear HT HOK HBk
            obtain ⟨x, hx, rfl, T2, ht, hok, hbw⟩ := hrel
            have HBk := Lib.hid hbw
            have HT := Lib.hid ht
            have HOK := Lib.hid hok
            have k0' := (hbw.cell (p := ⟨w.heap.size, 0, none⟩) l0).trans k0
            have l0' := Nat.lt_of_lt_of_le l0 hbw.size
            clear ht hok hbw
            by_cases hltx : x < ns.length
            · generalize wr = wx at *
              go_wp2
              go_loopw [11] (fun i wr2 => ∃ y : Nat, y ≤ ks.length ∧ i = .int .i64 y ∧ ∃ T, TdW W.heap.size wM.heap.size wr2 (.slice At ns.length ct) ns.length ks.length T ∧ TdOK ns us ks ts T n x y ∧ Below W.heap.size W wr2) (fun i _ => ks.length - (intOf i).toNat)
              case atStart => exact ⟨0, Nat.zero_le _, rfl, T2, HT.out, HOK.out, HBk.out⟩
              case round =>
                clear HT HOK HBk
                obtain ⟨y, hy, rfl, T3, ht, hok, hbw⟩ := hrel
                have HBk := Lib.hid hbw
                have HT := Lib.hid ht
                have HOK := Lib.hid hok
                have j0' := (hbw.cell (p := ⟨w.heap.size + 1, 0, none⟩) l1).trans j0
                have l1' := Nat.lt_of_lt_of_le l1 hbw.size
                by_cases hlty : y < ks.length
                · have HRo3 := Lib.hid (HRo.out x y hltx hlty wr (bthen HB.out hbw))
                  have hre := HRE.out x y n
                  by_cases hrd : rd ns us ks ts x y = some n
                  · rw [decide_eq_true hrd] at hre
                    have HRd := Lib.hid hrd
                    have HTt : Hid (∀ X, Below wr.heap.size wr X → Calls Try.prog 146 #[.agg #[.int .i64 ns.length, .slice A0 ns.length c0, .slice A1 6 c1], .agg #[.int .i64 ks.length, .slice B0 ks.length d0, .slice B1 6 d1], .slice L 17 lc, .slice At ns.length ct, .int .i64 x, .int .i64 y, .int .i64 n] X
                      fun e w' => ∃ u, e = .returned u ∧ Ow cN 89 X.heap.size w' u ((tab ns us ks ts n x y).getD []) ∧ Below X.heap.size X w') := Lib.hid fun X hX => HTe.out x y n hltx hlty hrd _ ct T3 X (bthen (bthen HB.out hbw) hX) (ht.below hX).rd fun i j k' hi hj hr hk => hok i j k' hi hj hr (.inl hk)
                    have HNx := Lib.hid (hok.put hrd)
                    obtain ⟨b, gx, e1, hbz, hcx, hgB, hgz, hbg, hfz, ⟨u0, hu0⟩, hput⟩ := ht.put hltx hlty
                    subst e1
                    have HPut := Lib.hid hput
                    have m0 := (hbw.cell (p := ⟨w.heap.size, 0, none⟩) l0).trans (HK0.out.cell 0)
                    have m1 := (hbw.cell (p := ⟨w.heap.size, 1, none⟩) l0).trans (HK0.out.cell 1)
                    have m2 := (hbw.cell (p := ⟨w.heap.size, 2, none⟩) l0).trans (HK0.out.cell 2)
                    have n0 := (hbw.cell (p := ⟨w.heap.size + 1, 0, none⟩) l1).trans (HK1.out.cell 0)
                    have n1 := (hbw.cell (p := ⟨w.heap.size + 1, 1, none⟩) l1).trans (HK1.out.cell 1)
                    have n2 := (hbw.cell (p := ⟨w.heap.size + 1, 2, none⟩) l1).trans (HK1.out.cell 2)
                    simp only [List.getElem?_toArray, List.getElem?_cons_zero, List.getElem?_cons_succ] at m0 m1 m2 n0 n1 n2
                    have l0' := Nat.lt_of_lt_of_le l0 hbw.size
                    generalize tab ns us ks ts n x y = res at *
                    generalize rdI ns us ks ts x y = ri at *
                    have HQ := Lib.hid (And.intro hcx (And.intro hu0 hfz))
                    clear ht hok hbw hput hcx hu0 hfz hrd
                    go_wp2_with fail
                    refine HRo3.out.mono ?_
                    rintro e w2 ⟨rfl, rfl⟩
                    go_upto_region 30 with fail
                    have hcx := HQ.out.1
                    refine wp_region_sched (Below wr.heap.size wr) 14 [0, 1, 2, 3, 4, 5, 6, 7, 8, 9, 10, 11, 13] [0, 1, 2, 3, 4, 5, 6, 7, 8, 9, 10, 11, 12, 13] (by kernel_rfl) (by kernel_rfl) (Below.refl _ _).drew ?_
                    repeat
                      apply wpSched_q rfl rfl
                      case h =>
                        intro w' hI K hK
                        have hcx' := (hI.cell (p := ⟨b, x, none⟩) hbz).trans hcx
                        have m0' := (hI.cell (p := ⟨w.heap.size, 0, none⟩) l0').trans m0
                        have m1' := (hI.cell (p := ⟨w.heap.size, 1, none⟩) l0').trans m1
                        have m2' := (hI.cell (p := ⟨w.heap.size, 2, none⟩) l0').trans m2
                        have n0' := (hI.cell (p := ⟨w.heap.size + 1, 0, none⟩) l1').trans n0
                        have n1' := (hI.cell (p := ⟨w.heap.size + 1, 1, none⟩) l1').trans n1
                        have n2' := (hI.cell (p := ⟨w.heap.size + 1, 2, none⟩) l1').trans n2
                        simp only [quietV, stillV]
                        go_simp
                        exact hK
                      go_simp
                    refine wpSched_r rfl rfl ?_ (Below.refl _ _).drew
                    intro K hK hI
                    go_simp
                    refine (HTt.out _ hI).mono ?_
                    rintro e w9 ⟨u, rfl, ho, hb⟩
                    have hI9 := hI.trans (hb.mono hI.size)
                    refine hK _ _ hI9 ?_
                    clear hK K
                    obtain ⟨A9, c9, rfl⟩ := ho.opn
                    have hbl := ho.block
                    have HTn := Lib.hid (HPut.out w9 hI9 ⟨A9, (res.getD []).length, c9⟩ res ho.sl (fun k hk => hbl k hk))
                    have f9 := (hI9.frozen (p := ⟨gx, y, none⟩) hgz).trans HQ.out.2.2
                    have x9 := (hI9.cell (p := ⟨gx, y, none⟩) hgz).trans HQ.out.2.1
                    have g9 := Nat.lt_of_lt_of_le hgz hI9.size
                    have HB9 : Hid (∀ u, Below W.heap.size W (w9.setCell ⟨gx, y, none⟩ u)) := Lib.hid fun u => (HBk.out.trans (hI9.mono HBk.out.size)).setCell hgB _
                    generalize (res.getD []).length = rl at *
                    repeat
                      apply wpSched_q rfl rfl
                      case h =>
                        intro w' hI K hK
                        simp only [quietV, stillV]
                        go_simp
                        exact hK
                      go_simp
                    clear ho hb hI hI9 hbl hcx m0 m1 m2 n0 n1 n2
                    refine wpSched_nil ?_
                    try simp only [List.drop_succ_cons, List.drop_zero, List.drop_nil]
                    go_wp2
                    go_roundw
                    case rel => exact ⟨y + 1, by omega, by go_num, _, HTn.out, HNx.out, HB9.out _⟩
                    case measure => simp [intOf]; omega
                  · rw [decide_eq_false hrd] at hre
                    have HNx := Lib.hid (hok.skip hrd)
                    generalize rdI ns us ks ts x y = ri at *
                    clear ht hok hbw hrd
                    go_wp2_with fail
                    refine HRo3.out.mono ?_
                    rintro e w2 ⟨rfl, rfl⟩
                    go_wp2
                    go_roundw
                    case rel => exact ⟨y + 1, by omega, by go_num, T3, HT.out, HNx.out, HBk.out⟩
                    case measure => simp [intOf]; omega
                · obtain rfl : y = ks.length := by omega
                  have HNx := Lib.hid hok.nextX
                  clear ht hok hbw
                  go_wp2
                  go_roundw
                  case rel => exact ⟨x + 1, by omega, by go_num, T3, HT.out, HNx.out, HBk.out⟩
                  case measure => simp [intOf]; omega
            · obtain rfl : x = ns.length := by omega
              have HNx := Lib.hid HOK.out.nextK
              go_wp2
              go_roundw
              case rel => exact ⟨n + 1, by omega, by go_num, T2, HT.out, HNx.out, HBk.out⟩
              case measure => simp [intOf]; omega
        · obtain rfl : n = 17 := by omega
          go_wp2
          go_ret
          exact ⟨_, T, rfl, HT.out.rd, HEnd.out T HOK.out, bthen HB.out HBk.out⟩
end Go.Proofs.Ytgdmfihnbbgcoaa

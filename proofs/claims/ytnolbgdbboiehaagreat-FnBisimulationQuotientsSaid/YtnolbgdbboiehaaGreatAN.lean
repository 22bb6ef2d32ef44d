/- Joined of several texts: 07n, 07o, 07p. -/
import Derived.Test.YtnolbgdbboiehaaGreatHI
import Derived.Test.YtnolbgdbboiehaaGreatM07m
import Derived.Test.YtnolbgdbboiehaaGreatSA
import Derived.Maps.OwnOps
namespace Go.Proofs.YtnolbgdbboiehaaGreat
open Go.RowKit
set_option linter.unusedVariables false
set_option linter.unusedSimpArgs false
/- Contracts of chapter 7, of the program: a partition's add. -/
set_option maxRecDepth 100000 in
theorem impl_add_known (p M : Nat) (f : Nat → Option Nat) (c key x : Nat) (v : Value) (xs : List Int) (B : Nat) (w : World) (hp : Blk w p 154 #[.map (some M), v]) (hm : Mp w M f c) (ho : Ow cI 2 B w v xs)
    (hpM : p ≠ M) (hpB : p < B) (hMB : M < B) (hBw : B ≤ w.heap.size) (hk : key < 256) (hf : f key = some x) (hl : xs.length ≤ 1000) :
    Calls Tryz.prog 187 #[.pointer (some ⟨p, 0, none⟩), .int .i64 key] w
      fun e w' => e = .returned (.tuple #[]) ∧ ∃ v', Blk w' p 154 #[.map (some M), v'] ∧ Mp w' M f c ∧ Ow cI 2 B w' v' (xs ++ [(x : Int)]) ∧ ∀ L, L ≤ p → L ≤ M → L ≤ B → Below L w w' := by
  obtain ⟨A, cc, rfl⟩ := ho.opn
  obtain ⟨y, hrun⟩ := hm.ok hk
  rw [hf] at hrun
  have hget := hm.get hk hf
  have k0 := hp.cell
  have f0 := hp.frozen
  have l0 := hp.lt
  go_enter Tryz.func187, Tryz.ntmps187
  go_upto_region 3 with fail
  have hod := ho.below (Below.refl _ _).drew
  have hgd := (hm.drew).get hk hf
  have hpd : Blk w.drew p 154 #[.map (some M), .slice A xs.length cc] := hp
  have hl9 : (xs ++ [(x : Int)]).length = xs.length + 1 := by simp
  have hne : (some p : Option Nat) ≠ (Value.slice A xs.length cc).ownBlock := fun e => by have := (ho.block p e.symm).1; omega
  have hneM : (some M : Option Nat) ≠ (Value.slice A xs.length cc).ownBlock := fun e => by have := (ho.block M e.symm).1; omega
  have hBd : B ≤ w.drew.heap.size := hBw
  clear hrun
  go_region_law (refine step_one (K := cI) _ ty_int64 rfl _ _ rfl (B := B) (xs := xs) (by simp [Act.eval, Act.put]; done) hod (x : Int) rfl (by simp [Act.eval, Act.put]; done) (by omega) hBd ?_; intro v1 w5 ho1 hg1 hb1 hat1; obtain ⟨g9, c9, hv9, hg9, -⟩ := ho1.form (by simp); rw [hl9] at hv9; subst hv9; have hk9 := (hpd.alloc _).grown hg1 hne; have kc9 := hk9.cell; have kf9 := hk9.frozen; have kl9 := hk9.lt)
  all_goals
    have Y1 := Lib.hid (hk9.set_ 1 (.slice (some ⟨g9, 0, none⟩) (xs.length + 1) c9))
    have Y2 := Lib.hid ((((hm.drew).grown (World.grownBy_alloc _ _ none) (by simp)).grown hg1 hneM).setCell (p := ⟨p, 1, none⟩) (fun e => hpM e.symm) (.slice (some ⟨g9, 0, none⟩) (xs.length + 1) c9))
    have Y3 := Lib.hid (ho1.setBelow (p := ⟨p, 1, none⟩) hpB (.slice (some ⟨g9, 0, none⟩) (xs.length + 1) c9))
    have Y4 := Lib.hid (fun (L : Nat) (h1 : L ≤ p) (_ : L ≤ M) (h3 : L ≤ B) => (((Below.refl L w).drew).trans (hb1.mono h3)).setCell (p := ⟨p, 1, none⟩) h1 (.slice (some ⟨g9, 0, none⟩) (xs.length + 1) c9))
    clear ho1 hg1 hb1 hat1 hk9 kc9 kf9
    go_wp2
    refine ⟨rfl, .tuple #[], ?_, rfl, _, Y1.out, Y2.out, Y3.out, Y4.out⟩
    first | rfl | kernel_rfl | (simp [results, Tryz.results187, go_sem]; done)
/- Contracts of chapter 7, of the program: a partition's add, at a new key. -/
set_option maxRecDepth 100000 in
theorem impl_add_new (p M : Nat) (f : Nat → Option Nat) (c key : Nat) (v : Value) (xs : List Int) (B : Nat) (w : World) (hp : Blk w p 154 #[.map (some M), v]) (hm : Mp w M f c) (ho : Ow cI 2 B w v xs)
    (hpM : p ≠ M) (hpB : p < B) (hMB : M < B) (hBw : B ≤ w.heap.size) (hk : key < 256) (hf : f key = none) (hc : c ≤ 255) (hl : xs.length ≤ 1000) :
    Calls Tryz.prog 187 #[.pointer (some ⟨p, 0, none⟩), .int .i64 key] w
      fun e w' => e = .returned (.tuple #[]) ∧ ∃ v', Blk w' p 154 #[.map (some M), v'] ∧ Mp w' M (fun b => if b = key then some c else f b) (c + 1) ∧ Ow cI 2 B w' v' (xs ++ [(c : Int)]) ∧ ∀ L, L ≤ p → L ≤ M → L ≤ B → Below L w w' := by
  obtain ⟨A, cc, rfl⟩ := ho.opn
  obtain ⟨y, hrun⟩ := hm.ok hk
  rw [hf] at hrun
  have k0 := hp.cell
  have f0 := hp.frozen
  have l0 := hp.lt
  obtain ⟨w2, hrun2, hm2, hg2⟩ := (hm.drew).put hc hk hf (x := c) (by omega)
  have hlen := fun ty => (hm.drew).len ty
  go_enter Tryz.func187, Tryz.ntmps187
  go_upto_region 2 with fail
  go_still_tail 10, (by kernel_rfl)
  go_upto_region 3 with fail
  have hz2 : w.heap.size ≤ w2.heap.size := hg2.size
  have hp2 : Blk w2 p 154 #[.map (some M), .slice A xs.length cc] := Blk.grown (w := w.drew) hp hg2 (fun e => hpM (by injection e))
  have ho2 := ((ho.below (Below.refl _ _).drew).ob.keep (Keep.of_grown hg2 (fun k hk => by injection hk with e; subst e; exact ⟨Nat.le_refl _, Nat.lt_succ_self _⟩)) (.inr (by omega))).1
  have HB2 := Lib.hid (fun (L : Nat) (h2 : L ≤ M) => ((Below.refl L w).drew).grown hg2 (by have := hm.lt; show L ≤ w.heap.size; omega) (fun k hk => by injection hk with e; omega))
  clear k0 f0 l0 hrun2 hlen
  have k0 := hp2.cell
  have f0 := hp2.frozen
  have l0 := hp2.lt
  have hod := ho2.below (Below.refl _ _).drew
  have hgd := (hm2.drew).get hk (x := c) (by simp)
  have hpd : Blk w2.drew p 154 #[.map (some M), .slice A xs.length cc] := hp2
  have hl9 : (xs ++ [(c : Int)]).length = xs.length + 1 := by simp
  have hne : (some p : Option Nat) ≠ (Value.slice A xs.length cc).ownBlock := fun e => by have := (ho2.block p e.symm).1; omega
  have hneM : (some M : Option Nat) ≠ (Value.slice A xs.length cc).ownBlock := fun e => by have := (ho2.block M e.symm).1; omega
  have hBd : B ≤ w2.drew.heap.size := Nat.le_trans hBw hz2
  clear hrun
  go_region_law (refine step_one (K := cI) _ ty_int64 rfl _ _ rfl (B := B) (xs := xs) (by simp [Act.eval, Act.put]; done) hod (c : Int) rfl (by simp [Act.eval, Act.put]; done) (by omega) hBd ?_; intro v1 w5 ho1 hg1 hb1 hat1; obtain ⟨g9, c9, hv9, hg9, -⟩ := ho1.form (by simp); rw [hl9] at hv9; subst hv9; have hk9 := (hpd.alloc _).grown hg1 hne; have kc9 := hk9.cell; have kf9 := hk9.frozen; have kl9 := hk9.lt)
  all_goals
    have Y1 := Lib.hid (hk9.set_ 1 (.slice (some ⟨g9, 0, none⟩) (xs.length + 1) c9))
    have Y2 := Lib.hid ((((hm2.drew).grown (World.grownBy_alloc _ _ none) (by simp)).grown hg1 hneM).setCell (p := ⟨p, 1, none⟩) (fun e => hpM e.symm) (.slice (some ⟨g9, 0, none⟩) (xs.length + 1) c9))
    have Y3 := Lib.hid (ho1.setBelow (p := ⟨p, 1, none⟩) hpB (.slice (some ⟨g9, 0, none⟩) (xs.length + 1) c9))
    have Y4 := Lib.hid (fun (L : Nat) (h1 : L ≤ p) (h2 : L ≤ M) (h3 : L ≤ B) => ((((HB2.out L h2)).drew).trans (hb1.mono h3)).setCell (p := ⟨p, 1, none⟩) h1 (.slice (some ⟨g9, 0, none⟩) (xs.length + 1) c9))
    clear ho1 hg1 hb1 hat1 hk9 kc9 kf9
    go_wp2
    refine ⟨rfl, .tuple #[], ?_, rfl, _, Y1.out, Y2.out, Y3.out, Y4.out⟩
    first | rfl | kernel_rfl | (simp [results, Tryz.results187, go_sem]; done)
/- Contracts of chapter 7, of the program: divided. -/
set_option maxRecDepth 100000 in
theorem impl_divided (v : Value) (ks : List Nat) (w : World) (h : Sl cI w v (li ks)) (hk : ∀ i, ks.getD i 0 < 256) (hl : ks.length ≤ 200) :
    Calls Tryz.prog 101 #[v] w fun e w' => ∃ u, e = .returned u ∧ Ow cI 2 w.heap.size w' u (li (dvd (fun y => ks.getD y 0) ks.length).1) ∧ Below w.heap.size w w' := by
  obtain ⟨A, c, rfl⟩ := h.opn
  have hmm := @run_makeMap Tryz.prog
  go_enter Tryz.func101, Tryz.ntmps101
  go_upto_region 2 with fail
  have HM : Hid (Mp ((w.alloc (.map #[] 0)).alloc (.cells #[.map (some w.heap.size), .slice none 0 0] 154)) w.heap.size (fst (fun y => ks.getD y 0) 0) 0) := Lib.hid ((Mp.made w).grown (World.grownBy_alloc _ _ none) (by simp))
  have HP : Hid (Blk ((w.alloc (.map #[] 0)).alloc (.cells #[.map (some w.heap.size), .slice none 0 0] 154)) (w.heap.size + 1) 154 #[.map (some w.heap.size), .slice none 0 0]) := Lib.hid (Blk.new' (w.alloc (.map #[] 0)) _ _ (by simp))
  have HB : Hid (Below w.heap.size w ((w.alloc (.map #[] 0)).alloc (.cells #[.map (some w.heap.size), .slice none 0 0] 154))) := Lib.hid (((Below.refl _ _).alloc (Nat.le_refl _) _).alloc (by simp) _)
  have HZ : Hid (((w.alloc (.map #[] 0)).alloc (.cells #[.map (some w.heap.size), .slice none 0 0] 154)).heap.size = w.heap.size + 2) := Lib.hid (by simp)
  have HL := Lib.hid (li_length ks)
  have HK := Lib.hid hk
  have HS := Lib.hid h
  rw [HL.out] at HS ⊢
  have HQ := Lib.hid hmm
  clear hmm hk h
  generalize World.alloc (w.alloc (.map #[] 0)) _ = W at *
  go_wp2
  go_loopw [10] (fun i wr => ∃ j : Nat, j ≤ ks.length ∧ i = .int .i64 j ∧ Below w.heap.size w wr ∧ w.heap.size + 2 ≤ wr.heap.size ∧ Mp wr w.heap.size (fst (fun y => ks.getD y 0) j) (dvd (fun y => ks.getD y 0) j).2 ∧
      ∃ v', Blk wr (w.heap.size + 1) 154 #[.map (some w.heap.size), v'] ∧ Ow cI 2 (w.heap.size + 2) wr v' (li (dvd (fun y => ks.getD y 0) j).1)) (fun i _ => ks.length - (intOf i).toNat)
  case atStart => exact ⟨0, Nat.zero_le _, rfl, HB.out, by rw [HZ.out]; exact Nat.le_refl _, HM.out, _, HP.out, Ow.nil _ _⟩
  case round =>
    obtain ⟨j, hj, rfl, hb, hz, hm, v', hp, ho⟩ := hrel
    have HBx := Lib.hid hb
    have HMx := Lib.hid hm
    have HPx := Lib.hid hp
    have HOx := Lib.hid ho
    by_cases hlt : j < ks.length
    · have hlt' : j < (li ks).length := by rw [HL.out]; exact hlt
      obtain ⟨b, o, rfl, hbl, hc0⟩ := (show Sl cI w (.slice A (li ks).length c) (li ks) by rw [HL.out]; exact HS.out).below hb |>.atI hlt'
      rw [li_get] at hc0
      have hk := HK.out j
      have hcnt := dvd_count (fun y => ks.getD y 0) j
      have hln : (li (dvd (fun y => ks.getD y 0) j).1).length ≤ 1000 := by rw [li_length, dvd_length]; omega
      have C : Hid (Calls Tryz.prog 187 #[.pointer (some ⟨w.heap.size + 1, 0, none⟩), .int .i64 (ks.getD j 0 : Nat)] wr fun e w' => e = .returned (.tuple #[]) ∧ Below w.heap.size wr w' ∧ w.heap.size + 2 ≤ w'.heap.size ∧ Mp w' w.heap.size (fst (fun y => ks.getD y 0) (j + 1)) (dvd (fun y => ks.getD y 0) (j + 1)).2 ∧
          ∃ v', Blk w' (w.heap.size + 1) 154 #[.map (some w.heap.size), v'] ∧ Ow cI 2 (w.heap.size + 2) w' v' (li (dvd (fun y => ks.getD y 0) (j + 1)).1)) := by
        refine Lib.hid ?_
        cases hf : (List.range j).find? (fun z => decide (ks.getD z 0 = ks.getD j 0)) with
        | some y =>
          have e1 : dvd (fun y => ks.getD y 0) (j + 1) = ((dvd (fun y => ks.getD y 0) j).1 ++ [(dvd (fun y => ks.getD y 0) j).1.getD y 0], (dvd (fun y => ks.getD y 0) j).2) := by rw [dvd, hf]
          have e2 := fst_step_known (key := fun y => ks.getD y 0) hf
          refine (impl_add_known (w.heap.size + 1) w.heap.size _ _ _ _ _ _ (w.heap.size + 2) wr HPx.out HMx.out HOx.out (by omega) (by omega) (by omega) hz hk (fst_known (key := fun y => ks.getD y 0) hf) hln).mono fun e w' ⟨he, v', h1, h2, h3, h4⟩ => ?_
          have h5 := h4 w.heap.size (by omega) (Nat.le_refl _) (by omega)
          refine ⟨he, h5, Nat.le_trans hz h5.size, ?_, v', h1, ?_⟩
          · rw [e1, e2]; exact h2
          · rw [e1]; rw [li_append]; exact h3
        | none =>
          have e1 : dvd (fun y => ks.getD y 0) (j + 1) = ((dvd (fun y => ks.getD y 0) j).1 ++ [(dvd (fun y => ks.getD y 0) j).2], (dvd (fun y => ks.getD y 0) j).2 + 1) := by rw [dvd, hf]
          have e2 := fst_step_new (key := fun y => ks.getD y 0) hf
          refine (impl_add_new (w.heap.size + 1) w.heap.size _ _ _ _ _ (w.heap.size + 2) wr HPx.out HMx.out HOx.out (by omega) (by omega) (by omega) hz hk (fst_new (key := fun y => ks.getD y 0) hf) (by omega) hln).mono fun e w' ⟨he, v', h1, h2, h3, h4⟩ => ?_
          have h5 := h4 w.heap.size (by omega) (Nat.le_refl _) (by omega)
          refine ⟨he, h5, Nat.le_trans hz h5.size, ?_, v', h1, ?_⟩
          · rw [e1, e2]; exact h2
          · rw [e1]; rw [li_append]; exact h3
      clear hb hm hp ho hln hcnt
      obtain ⟨q, hq⟩ : ∃ q, ks.getD j 0 = q := ⟨_, rfl⟩
      rw [hq] at hc0 C
      clear hq hk
      go_wp2_with fail
      refine C.out.mono ?_
      rintro e w1 ⟨rfl, h5, hz1, hm1, v1, hp1, ho1⟩
      have HM1 := Lib.hid hm1
      have HP1 := Lib.hid hp1
      have HO1 := Lib.hid ho1
      have HB1 := Lib.hid h5
      clear hm1 hp1 ho1 h5
      go_wp2
      go_roundw
      case rel => exact ⟨j + 1, by omega, by go_num, HBx.out.trans HB1.out, hz1, HM1.out, _, HP1.out, HO1.out⟩
      case measure => simp [intOf]; omega
    · obtain rfl : j = ks.length := by omega
      have k0 := hp.cell
      have l0 := hp.lt
      obtain ⟨Av, cv, rfl⟩ := ho.opn
      clear hb hm hp ho
      go_wp2
      go_ret
      exact ⟨_, rfl, HOx.out.mono (by omega), HBx.out⟩
theorem impl_classesOf (v : Value) (ks : List Nat) (w : World) (h : Sl cI w v (li ks)) (hk : ∀ i, ks.getD i 0 < 256) (hl : ks.length ≤ 200) :
    Calls Tryz.prog 42 #[v] w fun e w' => ∃ u, e = .returned u ∧ Ow cI 2 w.heap.size w' u (li (dvd (fun y => ks.getD y 0) ks.length).1) ∧ Below w.heap.size w w' := by
  obtain ⟨A, c, rfl⟩ := h.opn
  have HC := Lib.hid (impl_divided _ ks w h hk hl)
  clear h hk
  go_enter Tryz.func42, Tryz.ntmps42
  go_wp2_with fail
  refine HC.out.mono ?_
  rintro e w1 ⟨u, rfl, ho, hb⟩
  obtain ⟨Av, cv, rfl⟩ := ho.opn
  have HO := Lib.hid ho
  have HB := Lib.hid hb
  clear ho hb
  go_wp2
  go_ret
  exact ⟨_, rfl, HO.out, HB.out⟩
end Go.Proofs.YtnolbgdbboiehaaGreat

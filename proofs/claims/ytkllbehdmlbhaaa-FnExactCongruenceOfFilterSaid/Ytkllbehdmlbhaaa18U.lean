/- Heyting algebras: congruence of the program; CongruenceOfFilter of both sides. -/
import Derived.Test.Ytkllbehdmlbhaaa18T
namespace Go.Proofs.Ytkllbehdmlbhaaa
open Go.RowKit
set_option linter.unusedVariables false
set_option linter.unusedSimpArgs false
set_option maxHeartbeats 2000000 in
set_option maxRecDepth 100000 in
theorem impl_congruence (a o i : Value) (A O I : List (List Nat)) (b t m : Nat) (w : World) (h : Hy w a o i (lil A) (lil O) (lil I)) (hT : HyT A O I b t) (hm : m < 2 ^ A.length) :
    Calls Try.prog 22 #[.agg #[a, o, i, .int .i64 (b : Int), .int .i64 (t : Int)], .int .i64 (m : Int)] w fun e w' => ∃ u, e = .returned u ∧ Ow cI 2 w.heap.size w' u (li (ccl (ordH A) m A.length).1) ∧ Below w.heap.size w w' := by
  obtain ⟨va, ca, rfl⟩ := h.a.opn
  obtain ⟨vo, co, rfl⟩ := h.o.opn
  obtain ⟨vi, ci, rfl⟩ := h.i.opn
  have LL := Lib.hid (lil_length A)
  have LI := Lib.hid (show (lil I).length = A.length by rw [lil_length, hT.tI.l])
  have h30 := hT.n30
  have hm2 := Nat.lt_of_lt_of_le hm (two_pow_30 h30)
  have HI := Lib.hid (fun W (hW : Below w.heap.size w W) => h.i.below hW)
  have SZ0 := Lib.hid (fun W (hW : Below w.heap.size w W) => impl_Hsize (.slice va (lil A).length ca) (.slice vo (lil O).length co) (.slice vi (lil I).length ci) b t (lil A) W (h.a.below hW))
  rw [LI.out] at HI
  rw [LL.out, LI.out] at SZ0 ⊢
  generalize (lil O).length = no at *
  have hb0 := below_alloc' w (.cells #[.slice va A.length ca, .slice vo no co, .slice vi A.length ci, .int .i64 (b : Int), .int .i64 (t : Int)] 29)
  have hk0 := Blk.new w 29 #[.slice va A.length ca, .slice vo no co, .slice vi A.length ci, .int .i64 (b : Int), .int .i64 (t : Int)]
  have HB := Lib.hid hb0
  have HK0 := Lib.hid hk0
  have TI := Lib.hid hT.tI
  obtain ⟨p, hp⟩ : ∃ p : Nat → Nat → Bool, (fun x y => m.testBit (ent I x y) && m.testBit (ent I y x)) = p := ⟨_, rfl⟩
  have HP : Hid (∀ x y, p x y = (m.testBit (ent I x y) && m.testBit (ent I y x))) := Lib.hid (fun x y => by rw [← hp])
  have HE : Hid (lnk A.length A.length p = rlM (ordH A) m) := Lib.hid (by
    unfold rlM
    rw [ordH_length]
    refine lnk_congr fun x hx y hy => ?_
    rw [← hp]
    unfold rlt
    rw [hT.eI x y hx hy, hT.eI y x hy hx, Int.toNat_natCast, Int.toNat_natCast])
  have HC : Hid (∀ v W, Sl cI W v (li (rlM (ordH A) m)) → Calls Try.prog 40 #[v] W fun e w' => ∃ u, e = .returned u ∧ Ow cI 2 W.heap.size w' u (li (ccl (ordH A) m A.length).1) ∧ Below W.heap.size W w') := Lib.hid (fun v W hW => by
    have := impl_classesOfM v (rlM (ordH A) m) W hW (fun i => Nat.lt_of_lt_of_le (getD_lt (rlM_lt (ordH A) m) i) (two_pow_30 (by rw [ordH_length]; exact h30))) (by rw [rlM_length, ordH_length]; omega)
    rw [rlM_length, ordH_length] at this
    exact this)
  have RL := Lib.hid (show (li (rlM (ordH A) m)).length = A.length by rw [li_length, rlM_length, ordH_length])
  clear hb0 hk0 h hT hp
  go_enter Try.func22, Try.ntmps22
  go_upto_region 1 with fail
  generalize World.alloc w _ = W at *
  have k0 := HK0.out.cell
  have l0 := HK0.out.lt
  go_wp2_with fail
  refine (SZ0.out _ HB.out).mono ?_
  rintro e w1 ⟨rfl, hb⟩
  have HB1 := Lib.hid (bthen HB.out hb)
  have J0 := Lib.hid (HK0.out.below hb l0)
  clear k0 l0 hb
  go_wp2_with (at_make; refine stopHere ?_)
  refine goHere ?_
  refine mk_full (K := cI) w1 ty_int64 rfl _ _ rfl w1.heap.size A.length 0 rfl rfl rfl (by omega) (Nat.le_refl _) ?_
  intro w2 ho hg hb hz
  have EZ : List.replicate A.length (0 : Int) = li (List.replicate A.length 0) := by unfold li; rw [List.map_replicate]; rfl
  rw [EZ, gvM_zero p] at ho
  have HO := Lib.hid ho
  have HB2 := Lib.hid hb
  clear ho hb hg hz EZ
  go_wp2
  go_loopw [13] (fun k wr => ∃ x : Nat, x ≤ A.length ∧ k = .int .i64 x ∧ Ow cI 2 w1.heap.size wr (.slice (some ⟨w1.heap.size, 0, none⟩) A.length A.length) (li (gvM p A.length x 0)) ∧ Below w1.heap.size w1 wr) (fun k _ => A.length - (intOf k).toNat)
  case atStart => exact ⟨0, Nat.zero_le _, rfl, HO.out, HB2.out⟩
  case round =>
    obtain ⟨x, hx, rfl, ho, hb⟩ := hrel
    obtain ⟨w3, hw3⟩ : ∃ W, W = wr := ⟨_, rfl⟩
    subst hw3
    have HOr := Lib.hid ho
    have HBr := Lib.hid hb
    clear ho hb
    by_cases hlt : x < A.length
    · go_wp2
      go_loopw [18] (fun k wq => ∃ y : Nat, y ≤ A.length ∧ k = .int .i64 y ∧ Ow cI 2 w1.heap.size wq (.slice (some ⟨w1.heap.size, 0, none⟩) A.length A.length) (li (gvM p A.length x y)) ∧ Below w1.heap.size w1 wq) (fun k _ => A.length - (intOf k).toNat)
      case atStart => exact ⟨0, Nat.zero_le _, rfl, HOr.out, HBr.out⟩
      case round =>
        obtain ⟨y, hy, rfl, hp, hb⟩ := hrel
        obtain ⟨w4, hw4⟩ : ∃ W, W = wr := ⟨_, rfl⟩
        subst hw4
        have HP4 := Lib.hid hp
        have HB4 := Lib.hid hb
        clear hp hb
        by_cases hlt2 : y < A.length
        · obtain ⟨b1, o1, d1, q1, cj1, e4, hb3, hc3, hd3, hc4⟩ := ent_at (HI.out _ (bthen HB1.out HB4.out)) TI.out hlt hlt2
          obtain ⟨b2, o2, d2, q2, cj2, e5, hb5, hc5, hd5, hc6⟩ := ent_at (HI.out _ (bthen HB1.out HB4.out)) TI.out hlt2 hlt
          subst e4
          injection e5 with e5
          injection e5 with e5 e6
          subst e5; subst e6
          have h1 := TI.out.ent_lt hlt hlt2
          have h2 := TI.out.ent_lt hlt2 hlt
          have HRE := Lib.hid (HP.out x y)
          generalize ent I x y = z1 at *
          generalize ent I y x = z2 at *
          have t4 := J0.out.below HB4.out J0.out.lt
          have t4c := t4.cell
          have t4s := t4.lt
          clear t4
          have EN : Hid (p x y = false → Ow cI 2 w1.heap.size w4 (.slice (some ⟨w1.heap.size, 0, none⟩) A.length A.length) (li (gvM p A.length x (y + 1)))) := Lib.hid (fun hq => by rw [gvM_no p A.length x y hq]; exact HP4.out)
          go_wp2_with fail
          refine (impl_has m z1 _ (by omega) (by omega)).mono ?_
          rintro e _ ⟨rfl, rfl⟩
          cases e1 : m.testBit z1
          · have E := Lib.hid (EN.out (by rw [HRE.out, e1]; rfl))
            clear e1
            go_wp2
            exact ⟨⟨y + 1, by omega, by go_num, E.out, HB4.out⟩, by simp [intOf]; omega⟩
          · rw [e1, Bool.true_and] at HRE
            clear e1
            go_wp2_with fail
            refine (impl_has m z2 _ (by omega) (by omega)).mono ?_
            rintro e _ ⟨rfl, rfl⟩
            cases e1 : m.testBit z2
            · have E := Lib.hid (EN.out (by rw [HRE.out, e1]))
              clear e1
              go_wp2
              exact ⟨⟨y + 1, by omega, by go_num, E.out, HB4.out⟩, by simp [intOf]; omega⟩
            · have hpx : p x y = true := by rw [HRE.out, e1]
              have E := Lib.hid (gvM_yes p A.length x y hlt hpx)
              have hgl := gvM_lt p A.length x y h30 hy x
              have hgx : (gvM p A.length x y).getD x 0 = msk (p x) y := by rw [gvM_get p _ _ _ hlt, if_neg (Nat.lt_irrefl _), if_pos rfl]
              rw [hgx] at hgl
              obtain ⟨ps, hps⟩ : ∃ ps, gvM p A.length x y = ps := ⟨_, rfl⟩
              have hpl : ps.length = A.length := by rw [← hps, gvM_length]
              have hp := HP4.out
              rw [hps] at hp hgx E
              obtain ⟨cj5, -, -, -⟩ := hp.at1 rfl (j := x) (by rw [li_length, hpl]; exact hlt) rfl
              have hod := hp.below (Below.refl _ _).drew
              obtain ⟨cj4, fj, -, -⟩ := hod.at1 rfl (j := x) (by rw [li_length, hpl]; exact hlt) rfl
              rw [li_get, hgx] at cj5 cj4
              have hset := Lib.hid ((hod.set1 (j := x) (x := ((msk (p x) y ||| 2 ^ y : Nat) : Int)) (u := .int .i64 (msk (p x) y ||| 2 ^ y : Nat)) rfl rfl (by rw [li_length, hpl]; exact hlt)))
              rw [li_set, ← E.out] at hset
              have hbs := Lib.hid ((HB4.out.drew).setCell (p := ⟨w1.heap.size, x, none⟩) (Nat.le_refl _) (.int .i64 (msk (p x) y ||| 2 ^ y : Nat)))
              clear hp hpx hod hps E EN HP4 hc3 hc4 hc5 hc6 hb3 hd3 hb5 hd5 t4c t4s e1
              generalize msk (p x) y = g at *
              have e2 := i64_or_nat g (2 ^ y) (by omega) (two_pow_lt (by omega))
              have e3 := wrap_two_pow'' (n := y) (by omega)
              rw [← cast_two_pow] at e2
              go_wp2
              go_still_tail 8, (by kernel_rfl)
              change wpList _ _ _ _ _ (World.drew _)
              clear cj5
              generalize World.drew _ = w5 at *
              go_wp2
              exact ⟨⟨y + 1, by omega, by go_num, hset.out, hbs.out⟩, by simp [intOf]; omega⟩
        · obtain rfl : y = A.length := by omega
          have HP5 := HP4
          rw [gvM_next] at HP5
          go_wp2
          exact ⟨⟨x + 1, by omega, by go_num, HP5.out, HB4.out⟩, by simp [intOf]; omega⟩
    · obtain rfl : x = A.length := by omega
      have e := gvM_end p A.length
      rw [HE.out] at e
      rw [e] at HOr
      clear e
      go_wp2_with fail
      refine (HC.out _ _ HOr.out.sl).mono ?_
      rintro e w4 ⟨u, rfl, ho, hb⟩
      have HO4 := Lib.hid (ho.mono (Nat.le_trans HB1.out.size HBr.out.size))
      have HB4 := Lib.hid (bthen (bthen HB1.out HBr.out) hb)
      obtain ⟨vu, cu, rfl⟩ := ho.opn
      clear ho hb
      go_wp2
      go_ret
      exact ⟨_, rfl, HO4.out, HB4.out⟩
/-- the classes of a filter, where it is one -/
def cgL (A O I : List (List Int)) (b t m : Int) : List Int := if fcd A O I b t m = 0 then li (ccl (nsOf A) m.toNat A.length).1 else []
theorem cgL_len (A O I : List (List Int)) (b t m : Int) : (cgL A O I b t m).length ≤ A.length := by
  unfold cgL
  split
  · rw [li_length, ccl_length]; exact Nat.le_refl _
  · exact Nat.zero_le _
set_option maxRecDepth 100000 in
theorem spec_CongruenceOfFilter (a o i : Value) (b t m : Int) (A O I : List (List Int)) (w : World) (h : Hy w a o i A O I) (hs : SzH A O I) :
    Calls Try.prog 6 #[.agg #[a, o, i, .int .i64 b, .int .i64 t], .int .i64 m] w fun e w' => ∃ u, e = .returned (.tuple #[u, .int .i64 (fcd A O I b t m)]) ∧ Ob cI 2 w.heap.size w'.heap.size w' u (cgL A O I b t m) ∧ Below w.heap.size w w' := by
  obtain ⟨va, ca, rfl⟩ := h.a.opn
  obtain ⟨vo, co, rfl⟩ := h.o.opn
  obtain ⟨vi, ci, rfl⟩ := h.i.opn
  have hb0 := below_alloc' w (.cells #[.slice va A.length ca, .slice vo O.length co, .slice vi I.length ci, .int .i64 b, .int .i64 t] 29)
  have hk0 := Blk.new w 29 #[.slice va A.length ca, .slice vo O.length co, .slice vi I.length ci, .int .i64 b, .int .i64 t]
  have HB := Lib.hid hb0
  have HK0 := Lib.hid hk0
  have IS := Lib.hid (fun W (hW : Below w.heap.size w W) => spec_l19Set _ _ _ b t m A O I W (h.below hW) hs)
  have FI : Hid (fcd A O I b t m = 0 → ∀ W, Below w.heap.size w W → Calls Try.prog 19 #[.agg #[.slice va A.length ca, .slice vo O.length co, .slice vi I.length ci, .int .i64 b, .int .i64 t], .int .i64 m] W fun e w' => ∃ u, e = .returned u ∧ Ow cI 2 W.heap.size w' u (cgL A O I b t m) ∧ Below W.heap.size W w') := Lib.hid (fun h0 W hW => by
    unfold cgL
    rw [if_pos h0]
    obtain ⟨A1, O1, I1, b1, t1, m1, rfl, rfl, rfl, rfl, rfl, rfl, hm, hT, hf⟩ := fcd_0 h0
    rw [nsOf_lil, Int.toNat_natCast]
    have := spec_l19Classes _ _ _ A1 O1 I1 b1 t1 m1 W (h.below hW) hT hm hf
    rwa [← lil_length A1] at this)
  have E1 : Hid (fcd A O I b t m ≠ 0 → cgL A O I b t m = []) := Lib.hid (fun hh => by unfold cgL; rw [if_neg hh])
  clear hb0 hk0 h hs
  go_enter Try.func6, Try.ntmps6
  go_upto_region 1 with fail
  generalize World.alloc w _ = W at *
  have k0 := HK0.out.cell
  have l0 := HK0.out.lt
  go_wp2_with fail
  refine (IS.out _ HB.out).mono ?_
  rintro e w1 ⟨rfl, hb⟩
  have HB1 := Lib.hid (bthen HB.out hb)
  have J0 := Lib.hid (HK0.out.below hb l0)
  clear k0 l0 hb IS
  by_cases e1 : fcd A O I b t m = 0
  · have F1 := Lib.hid (FI.out e1)
    have E0 := Lib.hid e1
    rw [e1]
    clear e1 FI E1
    have k0 := J0.out.cell
    have l0 := J0.out.lt
    go_wp2_with fail
    refine (F1.out _ HB1.out).mono ?_
    rintro e w2 ⟨u, rfl, ho, hb⟩
    have HB2 := Lib.hid (bthen HB1.out hb)
    have HO := Lib.hid (ho.mono HB1.out.size)
    obtain ⟨vu, cu, rfl⟩ := ho.opn
    clear k0 l0 hb ho
    go_wp2
    go_ret2
    exact ⟨_, by rw [E0.out]; rfl, HO.out.ob, HB2.out⟩
  · have E := Lib.hid (E1.out e1)
    have q1 : (fcd A O I b t m != 0) = true := bne_iff_ne.2 e1
    obtain ⟨z, hz⟩ : ∃ z, fcd A O I b t m = z := ⟨_, rfl⟩
    have HZ := Lib.hid hz
    rw [hz] at q1 ⊢
    clear e1 FI E1 hz
    go_wp2
    go_ret2
    exact ⟨_, by rw [HZ.out]; rfl, by rw [E.out]; exact (Ow.nil _ _).ob, HB1.out⟩
set_option maxRecDepth 100000 in
theorem impl_CongruenceOfFilter (a o i : Value) (b t m : Int) (A O I : List (List Int)) (w : World) (h : Hy w a o i A O I) (hs : SzH A O I) :
    Calls Try.prog 8 #[.agg #[a, o, i, .int .i64 b, .int .i64 t], .int .i64 m] w fun e w' => ∃ u, e = .returned (.tuple #[u, .int .i64 (fcd A O I b t m)]) ∧ Ob cI 2 w.heap.size w'.heap.size w' u (cgL A O I b t m) ∧ Below w.heap.size w w' := by
  obtain ⟨va, ca, rfl⟩ := h.a.opn
  obtain ⟨vo, co, rfl⟩ := h.o.opn
  obtain ⟨vi, ci, rfl⟩ := h.i.opn
  have hb0 := below_alloc' w (.cells #[.slice va A.length ca, .slice vo O.length co, .slice vi I.length ci, .int .i64 b, .int .i64 t] 29)
  have hk0 := Blk.new w 29 #[.slice va A.length ca, .slice vo O.length co, .slice vi I.length ci, .int .i64 b, .int .i64 t]
  have HB := Lib.hid hb0
  have HK0 := Lib.hid hk0
  have IS := Lib.hid (fun W (hW : Below w.heap.size w W) => impl_filterCode _ _ _ b t m A O I W (h.below hW) hs)
  have FI : Hid (fcd A O I b t m = 0 → ∀ W, Below w.heap.size w W → Calls Try.prog 22 #[.agg #[.slice va A.length ca, .slice vo O.length co, .slice vi I.length ci, .int .i64 b, .int .i64 t], .int .i64 m] W fun e w' => ∃ u, e = .returned u ∧ Ow cI 2 W.heap.size w' u (cgL A O I b t m) ∧ Below W.heap.size W w') := Lib.hid (fun h0 W hW => by
    unfold cgL
    rw [if_pos h0]
    obtain ⟨A1, O1, I1, b1, t1, m1, rfl, rfl, rfl, rfl, rfl, rfl, hm, hT, hf⟩ := fcd_0 h0
    rw [nsOf_lil, Int.toNat_natCast]
    have := impl_congruence _ _ _ A1 O1 I1 b1 t1 m1 W (h.below hW) hT hm
    rwa [← lil_length A1] at this)
  have E1 : Hid (fcd A O I b t m ≠ 0 → cgL A O I b t m = []) := Lib.hid (fun hh => by unfold cgL; rw [if_neg hh])
  clear hb0 hk0 h hs
  go_enter Try.func8, Try.ntmps8
  go_upto_region 1 with fail
  generalize World.alloc w _ = W at *
  have k0 := HK0.out.cell
  have l0 := HK0.out.lt
  go_wp2_with fail
  refine (IS.out _ HB.out).mono ?_
  rintro e w1 ⟨rfl, hb⟩
  have HB1 := Lib.hid (bthen HB.out hb)
  have J0 := Lib.hid (HK0.out.below hb l0)
  clear k0 l0 hb IS
  by_cases e1 : fcd A O I b t m = 0
  · have F1 := Lib.hid (FI.out e1)
    have E0 := Lib.hid e1
    rw [e1]
    clear e1 FI E1
    have k0 := J0.out.cell
    have l0 := J0.out.lt
    go_wp2_with fail
    refine (F1.out _ HB1.out).mono ?_
    rintro e w2 ⟨u, rfl, ho, hb⟩
    have HB2 := Lib.hid (bthen HB1.out hb)
    have HO := Lib.hid (ho.mono HB1.out.size)
    obtain ⟨vu, cu, rfl⟩ := ho.opn
    clear k0 l0 hb ho
    go_wp2
    go_ret2
    exact ⟨_, by rw [E0.out]; rfl, HO.out.ob, HB2.out⟩
  · have E := Lib.hid (E1.out e1)
    have q1 : (fcd A O I b t m != 0) = true := bne_iff_ne.2 e1
    obtain ⟨z, hz⟩ : ∃ z, fcd A O I b t m = z := ⟨_, rfl⟩
    have HZ := Lib.hid hz
    rw [hz] at q1 ⊢
    clear e1 FI E1 hz
    go_wp2
    go_ret2
    exact ⟨_, by rw [HZ.out]; rfl, by rw [E.out]; exact (Ow.nil _ _).ob, HB1.out⟩
end Go.Proofs.Ytkllbehdmlbhaaa

/- Joined of several texts: Dt, Du, Dv, Dw. -/
import Derived.Test.YtboldkahppdmbaaGreatDoorDA
import Derived.Test.YtboldkahppdmbaaGreatDoorLM2
import Derived.Test.YtboldkahppdmbaaGreatDoorJ05
namespace Go.Proofs.YtboldkahppdmbaaGreatDoor
open Go.RowKit
set_option linter.unusedVariables false
set_option linter.unusedSimpArgs false
/- The reference's drawing functions of frames and models, by the shape of what they draw (written by program, gendr2.py). -/
set_option maxRecDepth 100000 in
set_option maxHeartbeats 4000000 in
theorem spec_l05Draw (w0 : World) (v : Value) (xs : List (Fin 256)) (w : World) (g : Nat) (worlds : Nat) (S : Src 111 w0 v xs w g) (h8 : worlds ≤ 8) :
    Calls Tryz.prog 48 #[.pointer (some ⟨g, 0, none⟩), .int .i64 (worlds : Int)] w fun e w' => ∃ (n : Int) (u : Value) (L : List Int), e = .returned (.agg #[.int .i64 n, u]) ∧ n ≤ 1000 ∧ L.length ≤ 9 ∧ Ow cI 2 w.heap.size w' u L ∧ Src 111 w0 v xs w' g ∧ w.grownBy w' (some g) := by
  have D := Lib.hid (Dg.start S)
  clear S
  go_enter Tryz.func48, Tryz.ntmps48
  have R0 := Blk.new w 26 #[.int .i64 0, .slice none 0 0]
  have HB : Hid (w.heap.size ≤ w.heap.size + 1) := Lib.hid (Nat.le_succ _)
  go_upto_region 1 with fail
  have hb := below_alloc' w (.cells #[.int .i64 0, .slice none 0 0] 26)
  have R := Lib.hid R0
  clear R0
  replace D := Lib.hid (D.out.below hb)
  clear hb
  generalize World.alloc w _ = W at *
  go_wp2_with fail
  refine (spec_l05Some _ _ _ _ _ worlds D.out.S h8).mono ?_
  rintro e w1 ⟨u, ns, rfl, hn, hr, O, hS, hg⟩
  replace O := Lib.hid (O.mono (R.out.lt))
  replace R := Lib.hid (D.out.blk R.out (Nat.le_refl _) hg)
  replace D := Lib.hid (D.out.call hS hg)
  clear hS hg
  have hn8 : ns.length ≤ 8 := by omega
  obtain ⟨A, c, rfl⟩ := O.out.opn
  rw [li_length] at O ⊢
  have NB := Lib.hid (O.out.block)
  go_upto_region 2 with fail
  have hb := below_alloc' w1 (.cells #[.int .i64 (ns.length : Int), .slice A ns.length c] 26)
  have F := Lib.hid (Blk.new w1 26 #[.int .i64 (ns.length : Int), .slice A ns.length c])
  have ZF : Hid (w.heap.size + 1 ≤ w1.heap.size) := Lib.hid R.out.lt
  replace O := Lib.hid (O.out.below hb)
  replace R := Lib.hid (R.out.below hb R.out.lt)
  replace D := Lib.hid (D.out.below hb)
  clear hb
  obtain ⟨fb, hfb⟩ : ∃ b, w1.heap.size = b := ⟨_, rfl⟩
  generalize hW2 : World.alloc w1 _ = WF at *
  rw [hfb] at F ZF ⊢
  have NF : Hid (∀ k, (Value.slice A ns.length c).ownBlock = some k → k < fb) := Lib.hid (fun k hk => by have := (NB.out k hk).2; omega)
  clear NB
  clear hW2 hfb
  go_wp2_with fail
  refine (spec_l01Next _ _ _ _ _ 40 D.out.S (by decide) (by decide)).mono ?_
  rintro e w2 ⟨k, rfl, hk, hS, hg, -⟩
  replace O := Lib.hid (D.out.passB O.out HB.out hg)
  replace R := Lib.hid (D.out.blk R.out (Nat.le_refl _) hg)
  replace F := Lib.hid (D.out.blk F.out (Nat.le_of_succ_le ZF.out) hg)
  replace D := Lib.hid (D.out.call hS hg)
  clear hS hg
  cases t0 : ((k : Int) == 0)
  · cases t1 : ((k : Int) == 1)
    · cases t2 : ((k : Int) == 2)
      · clear hk
        have kr := R.out.cell
        have fr := R.out.frozen
        have lr := R.out.lt
        have kf := F.out.cell
        have lf := F.out.lt
        go_wp2
        refine bodyPost_ret (v := .agg #[.int .i64 (ns.length : Int), .slice A ns.length c]) (by simp [results, Tryz.results48, go_sem, kr, fr, lr]) rfl ⟨_, _, (li ns), rfl, by omega, by rw [li_length]; omega, ?_, ?_, ?_⟩
        · exact ((O.out.setBelow (p := ⟨w.heap.size, 0, none⟩) (Nat.lt_succ_self _) _).setBelow (p := ⟨w.heap.size, 1, none⟩) (Nat.lt_succ_self _) _).mono HB.out
        · exact ((D.out.set (p := ⟨w.heap.size, 0, none⟩) (Nat.le_refl _) _).set (p := ⟨w.heap.size, 1, none⟩) (Nat.le_refl _) _).S
        · exact ((D.out.set (p := ⟨w.heap.size, 0, none⟩) (Nat.le_refl _) _).set (p := ⟨w.heap.size, 1, none⟩) (Nat.le_refl _) _).gr
      · clear hk
        by_cases hpos : 0 < ns.length
        · skip
          obtain ⟨F2, hF2⟩ : ∃ F2, F2 = 2 ^ ns.length - 1 := ⟨_, rfl⟩
          have hp2 := two_pow_256 hn8
          have hF256 : F2 < 256 := by have := Nat.pow_pos (n := ns.length) (show 0 < 2 by decide); omega
          have HF2 := Lib.hid hF2
          clear hF2 hp2
          have kf := F.out.cell
          go_upto_region 9 with fail
          have hb := (Below.refl w2.heap.size w2).drew
          replace O := Lib.hid (O.out.below hb)
          replace R := Lib.hid (R.out.below hb R.out.lt)
          replace F := Lib.hid (F.out.below hb F.out.lt)
          replace D := Lib.hid (D.out.below hb)
          clear hb
          have hI : (fun X : World => X.cell? ⟨fb, 0, none⟩ = some (.int .i64 (ns.length : Int)) ∧ X.cell? ⟨fb, 1, none⟩ = some (.slice A ns.length c)) (World.drew w2) := ⟨F.out.cell 0, F.out.cell 1⟩
          refine wp_region_sched (fun X => X.cell? ⟨fb, 0, none⟩ = some (.int .i64 (ns.length : Int)) ∧ X.cell? ⟨fb, 1, none⟩ = some (.slice A ns.length c)) 14 [0, 1, 2, 3, 4, 6, 7, 8, 10, 13] [0, 1, 2, 3, 4, 6, 7, 8, 5, 9, 10, 11, 12, 13] (by kernel_rfl) (by kernel_rfl) hI ?_
          generalize World.drew w2 = w2d at *
          clear kf
          repeat
            apply wpSched_q rfl rfl
            case h =>
              intro w' hI K hK
              have cc0 : w'.cell? ⟨fb, 0, none⟩ = some (.int .i64 (ns.length : Int)) := hI.1
              have cc1 : w'.cell? ⟨fb, 1, none⟩ = some (.slice A ns.length c) := hI.2
              simp only [quietV, stillV]
              go_simp
              exact hK
            go_simp
          refine wpSched_r rfl rfl ?_ hI
          intro K hK _
          go_simp
          refine (spec_l01Next _ _ _ _ _ (ns.length : Int) D.out.S (by omega) (by omega)).mono ?_
          rintro e w3 ⟨k1, rfl, hk1, hS, hg, -⟩
          replace O := Lib.hid (D.out.passB O.out HB.out hg)
          replace R := Lib.hid (D.out.blk R.out (Nat.le_refl _) hg)
          replace F := Lib.hid (D.out.blk F.out (Nat.le_of_succ_le ZF.out) hg)
          replace D := Lib.hid (D.out.call hS hg)
          clear hS hg
          have hk1' : k1 < ns.length := by omega
          clear hk1
          clear hI
          have hI : (fun X : World => X.cell? ⟨fb, 0, none⟩ = some (.int .i64 (ns.length : Int)) ∧ X.cell? ⟨fb, 1, none⟩ = some (.slice A ns.length c)) w3 := ⟨F.out.cell 0, F.out.cell 1⟩
          refine hK _ _ hI ?_
          clear hK K
          repeat
            apply wpSched_q rfl rfl
            case h =>
              intro w' hI K hK
              have cc0 : w'.cell? ⟨fb, 0, none⟩ = some (.int .i64 (ns.length : Int)) := hI.1
              have cc1 : w'.cell? ⟨fb, 1, none⟩ = some (.slice A ns.length c) := hI.2
              simp only [quietV, stillV]
              go_simp
              exact hK
            go_simp
          refine wpSched_r rfl rfl ?_ hI
          intro K hK _
          go_simp
          refine (spec_l01Full' ns.length F2 HF2.out _ (by omega)).mono ?_
          rintro e w8 ⟨rfl, rfl⟩
          clear hI
          have hI : (fun X : World => X.cell? ⟨fb, 0, none⟩ = some (.int .i64 (ns.length : Int)) ∧ X.cell? ⟨fb, 1, none⟩ = some (.slice A ns.length c)) w3 := ⟨F.out.cell 0, F.out.cell 1⟩
          refine hK _ _ hI ?_
          clear hK K
          repeat
            apply wpSched_q rfl rfl
            case h =>
              intro w' hI K hK
              have cc0 : w'.cell? ⟨fb, 0, none⟩ = some (.int .i64 (ns.length : Int)) := hI.1
              have cc1 : w'.cell? ⟨fb, 1, none⟩ = some (.slice A ns.length c) := hI.2
              simp only [quietV, stillV]
              go_simp
              exact hK
            go_simp
          refine wpSched_r rfl rfl ?_ hI
          intro K hK _
          go_simp
          rw [show IntKind.i64.wrap ((F2 : Int) + 1) = (F2 : Int) + 1 from IntWalk.i64_in _ ⟨by omega, by omega⟩]
          have hb := below_alloc' w3 (.cells #[.int .i64 (-1), .int .i64 ((F2 : Int) + 1)] 2)
          have OL : Hid (Ow cI 2 (w.heap.size + 1) (World.alloc w3 (.cells #[.int .i64 (-1), .int .i64 ((F2 : Int) + 1)] 2)) (.slice (some ⟨w3.heap.size, 0, none⟩) 2 2) [(-1), ((F2 : Int) + 1)]) := Lib.hid (Ow.lit [(-1), ((F2 : Int) + 1)] rfl rfl R.out.lt)
          replace O := Lib.hid (O.out.below hb)
          replace R := Lib.hid (R.out.below hb R.out.lt)
          replace F := Lib.hid (F.out.below hb F.out.lt)
          replace D := Lib.hid (D.out.below hb)
          clear hb
          generalize World.alloc w3 _ = w3l at *
          clear hI
          have hI : (fun X : World => X.cell? ⟨fb, 0, none⟩ = some (.int .i64 (ns.length : Int)) ∧ X.cell? ⟨fb, 1, none⟩ = some (.slice A ns.length c)) w3l := ⟨F.out.cell 0, F.out.cell 1⟩
          refine hK _ _ hI ?_
          clear hK K
          repeat
            apply wpSched_q rfl rfl
            case h =>
              intro w' hI K hK
              have cc0 : w'.cell? ⟨fb, 0, none⟩ = some (.int .i64 (ns.length : Int)) := hI.1
              have cc1 : w'.cell? ⟨fb, 1, none⟩ = some (.slice A ns.length c) := hI.2
              simp only [quietV, stillV]
              go_simp
              exact hK
            go_simp
          refine wpSched_r rfl rfl ?_ hI
          intro K hK _
          go_simp
          refine (spec_l01Pick _ _ _ _ _ _ [(-1), ((F2 : Int) + 1)] D.out.S OL.out.sl (by have := OL.out; have hb2 := OL.out.block; exact .inr (fun e => by have := hb2 _ e; have := D.out.lt; omega)) (by simp) (by simp)).mono ?_
          rintro e w4 ⟨y, rfl, -, hS, hg, -⟩
          clear OL
          replace O := Lib.hid (D.out.passB O.out HB.out hg)
          replace R := Lib.hid (D.out.blk R.out (Nat.le_refl _) hg)
          replace F := Lib.hid (D.out.blk F.out (Nat.le_of_succ_le ZF.out) hg)
          replace D := Lib.hid (D.out.call hS hg)
          clear hS hg
          clear hI
          have hI : (fun X : World => X.cell? ⟨fb, 0, none⟩ = some (.int .i64 (ns.length : Int)) ∧ X.cell? ⟨fb, 1, none⟩ = some (.slice A ns.length c)) w4 := ⟨F.out.cell 0, F.out.cell 1⟩
          refine hK _ _ hI ?_
          clear hK K
          obtain ⟨ga, cc, hv, gB, gl, -⟩ := O.out.form (by rw [li_length]; exact hpos)
          injection hv with hA hN hC
          subst hA
          subst hC
          clear hN
          repeat
            apply wpSched_q rfl rfl
            case h =>
              intro w' hI K hK
              simp only [quietV, stillV]
              go_simp
              exact hK
            go_simp
          refine wpSched_nil ?_
          try simp only [List.drop_succ_cons, List.drop_zero, List.drop_nil]
          have hmt : k1 < (li ns).length := by rw [li_length]; exact hk1'
          obtain ⟨c2, f2, -, -⟩ := O.out.at1 rfl hmt rfl
          have O9 := Lib.hid (O.out.set1 (j := k1) (x := y) (u := .int .i64 y) rfl rfl hmt)
          have L9 : Hid (((li ns).set k1 y).length ≤ 9) := Lib.hid (by rw [List.length_set, li_length]; omega)
          have D9 := Lib.hid (D.out.set (p := ⟨ga, k1, none⟩) (show w.heap.size ≤ ga by omega) (.int .i64 y))
          have gne : ga < fb := NF.out ga rfl
          have F9 := Lib.hid (F.out.far (p := ⟨ga, k1, none⟩) (fun e => by have eq : fb = ga := e; omega) (.int .i64 y))
          have R9 := Lib.hid (R.out.far (p := ⟨ga, k1, none⟩) (fun e => by have eq : w.heap.size = ga := e; omega) (.int .i64 y))
          clear hI O D F R
          have O := O9
          have D := D9
          have F := F9
          have R := R9
          clear O9 D9 F9 R9
          have kf := F.out.cell
          have lf := F.out.lt
          go_upto_region 10 with fail
          generalize World.setCell w4 _ _ = W9 at *
          clear kf lf c2 f2
          have kr := R.out.cell
          have fr := R.out.frozen
          have lr := R.out.lt
          have kf := F.out.cell
          have lf := F.out.lt
          go_wp2
          refine bodyPost_ret (v := .agg #[.int .i64 (ns.length : Int), .slice (some ⟨ga, 0, none⟩) ns.length c]) (by simp [results, Tryz.results48, go_sem, kr, fr, lr]) rfl ⟨_, _, ((li ns).set k1 y), rfl, by omega, L9.out, ?_, ?_, ?_⟩
          · exact ((O.out.setBelow (p := ⟨w.heap.size, 0, none⟩) (Nat.lt_succ_self _) _).setBelow (p := ⟨w.heap.size, 1, none⟩) (Nat.lt_succ_self _) _).mono HB.out
          · exact ((D.out.set (p := ⟨w.heap.size, 0, none⟩) (Nat.le_refl _) _).set (p := ⟨w.heap.size, 1, none⟩) (Nat.le_refl _) _).S
          · exact ((D.out.set (p := ⟨w.heap.size, 0, none⟩) (Nat.le_refl _) _).set (p := ⟨w.heap.size, 1, none⟩) (Nat.le_refl _) _).gr
        · have hz : ns.length = 0 := by omega
          have kf := F.out.cell
          go_upto_region 10 with fail
          clear kf hz
          have kr := R.out.cell
          have fr := R.out.frozen
          have lr := R.out.lt
          have kf := F.out.cell
          have lf := F.out.lt
          go_wp2
          refine bodyPost_ret (v := .agg #[.int .i64 (ns.length : Int), .slice A ns.length c]) (by simp [results, Tryz.results48, go_sem, kr, fr, lr]) rfl ⟨_, _, (li ns), rfl, by omega, by rw [li_length]; omega, ?_, ?_, ?_⟩
          · exact ((O.out.setBelow (p := ⟨w.heap.size, 0, none⟩) (Nat.lt_succ_self _) _).setBelow (p := ⟨w.heap.size, 1, none⟩) (Nat.lt_succ_self _) _).mono HB.out
          · exact ((D.out.set (p := ⟨w.heap.size, 0, none⟩) (Nat.le_refl _) _).set (p := ⟨w.heap.size, 1, none⟩) (Nat.le_refl _) _).S
          · exact ((D.out.set (p := ⟨w.heap.size, 0, none⟩) (Nat.le_refl _) _).set (p := ⟨w.heap.size, 1, none⟩) (Nat.le_refl _) _).gr
    · clear hk
      have kf := F.out.cell
      have lf := F.out.lt
      go_wp2_with fail
      refine (spec_l01Own _ (li ns) _ O.out.sl (by rw [li_length]; omega)).mono ?_
      rintro e w5 ⟨u2, rfl, O2, hb⟩
      have N2 : Hid (∀ k, u2.ownBlock = some k → fb < k) := Lib.hid (fun k hk => by have := (O2.block k hk).1; have := F.out.lt; omega)
      replace O2 := Lib.hid (O2.mono (R.out.lt))
      replace O := Lib.hid (O.out.below hb)
      replace R := Lib.hid (R.out.below hb R.out.lt)
      replace F := Lib.hid (F.out.below hb F.out.lt)
      replace D := Lib.hid (D.out.below hb)
      clear hb
      clear kf lf
      obtain ⟨A2, c2, rfl⟩ := O2.out.opn
      have bsz : w.heap.size + 1 ≤ _ := R.out.lt
      go_wp2_with (at_builtin; refine stopHere ?_)
      refine goHere ?_
      refine ap_one (K := cI) _ ty_int64 rfl _ _ rfl (B := w.heap.size + 1) (v := .slice A2 (li ns).length c2) (xs := li ns) rfl O2.out (0 : Int) rfl rfl (by rw [li_length]; omega) bsz ?_
      intro v1 w9 ho1 hg1 hb1 hat1
      have ne1 : v1.ownBlock ≠ some fb := by
        intro e
        have hlt := F.out.lt
        rcases hat1 with h1 | h1
        · have := N2.out fb (h1 ▸ e); omega
        · rw [h1] at e; injection e with e; omega
      have D9 := Lib.hid ((D.out.grown (grown_alloc _ hg1) (fun q e => by have := (O2.out.block q e).1; omega)).set (p := ⟨fb, 1, none⟩) (Nat.le_of_succ_le ZF.out) v1)
      have F8 := F.out.grown (grown_alloc _ hg1) (fun e => by have := N2.out fb e.symm; omega)
      have R9 := Lib.hid ((R.out.grown (grown_alloc _ hg1) (fun e => by have := (O2.out.block _ e.symm).1; omega)).far (p := ⟨fb, 1, none⟩) (fun e => by have eq : w.heap.size = fb := e; have := ZF.out; omega) v1)
      have O9 := Lib.hid (ho1.far (p := ⟨fb, 1, none⟩) ne1 v1)
      have F9 := Lib.hid (F8.set_ 1 v1)
      obtain ⟨A9, c9, hv9⟩ := ho1.opn
      rw [List.length_append, List.length_singleton, li_length] at hv9
      subst hv9
      clear ho1 hg1 hb1 hat1 D F R O ne1
      have D := D9
      have F := F9
      have R := R9
      have O := O9
      clear D9 F9 R9 O9
      have L9 : Hid ((li ns ++ [0]).length ≤ 9) := Lib.hid (by rw [List.length_append, li_length, List.length_singleton]; omega)
      have kf := F8.cell
      have lf := F8.lt
      have ff := F8.frozen
      go_upto_region 10 with fail
      generalize World.setCell w9 _ _ = W9 at *
      clear kf lf ff F8
      have kr := R.out.cell
      have fr := R.out.frozen
      have lr := R.out.lt
      have kf := F.out.cell
      have lf := F.out.lt
      go_wp2
      refine bodyPost_ret (v := .agg #[.int .i64 (ns.length : Int), .slice A9 (ns.length + 1) c9]) (by simp [results, Tryz.results48, go_sem, kr, fr, lr]) rfl ⟨_, _, (li ns ++ [0]), rfl, by omega, L9.out, ?_, ?_, ?_⟩
      · exact ((O.out.setBelow (p := ⟨w.heap.size, 0, none⟩) (Nat.lt_succ_self _) _).setBelow (p := ⟨w.heap.size, 1, none⟩) (Nat.lt_succ_self _) _).mono HB.out
      · exact ((D.out.set (p := ⟨w.heap.size, 0, none⟩) (Nat.le_refl _) _).set (p := ⟨w.heap.size, 1, none⟩) (Nat.le_refl _) _).S
      · exact ((D.out.set (p := ⟨w.heap.size, 0, none⟩) (Nat.le_refl _) _).set (p := ⟨w.heap.size, 1, none⟩) (Nat.le_refl _) _).gr
  · clear hk
    have kf := F.out.cell
    have lf := F.out.lt
    go_wp2_with fail
    clear kf lf
    have hb := below_alloc' w2 (.cells #[.int .i64 (-1), .int .i64 9, .int .i64 ((ns.length : Int) + 1)] 2)
    have OL : Hid (Ow cI 2 (w.heap.size + 1) (World.alloc w2 (.cells #[.int .i64 (-1), .int .i64 9, .int .i64 ((ns.length : Int) + 1)] 2)) (.slice (some ⟨w2.heap.size, 0, none⟩) 3 3) [(-1), 9, ((ns.length : Int) + 1)]) := Lib.hid (Ow.lit [(-1), 9, ((ns.length : Int) + 1)] rfl rfl R.out.lt)
    replace O := Lib.hid (O.out.below hb)
    replace R := Lib.hid (R.out.below hb R.out.lt)
    replace F := Lib.hid (F.out.below hb F.out.lt)
    replace D := Lib.hid (D.out.below hb)
    clear hb
    generalize World.alloc w2 _ = w2l at *
    refine (spec_l01Pick _ _ _ _ _ _ [(-1), 9, ((ns.length : Int) + 1)] D.out.S OL.out.sl (by have := OL.out; have hb2 := OL.out.block; exact .inr (fun e => by have := hb2 _ e; have := D.out.lt; omega)) (by simp) (by simp)).mono ?_
    rintro e w6 ⟨y, rfl, hy, hS, hg, -⟩
    clear OL
    replace O := Lib.hid (D.out.passB O.out HB.out hg)
    replace R := Lib.hid (D.out.blk R.out (Nat.le_refl _) hg)
    replace F := Lib.hid (D.out.blk F.out (Nat.le_of_succ_le ZF.out) hg)
    replace D := Lib.hid (D.out.call hS hg)
    clear hS hg
    have hy9 : y ≤ 1000 := by
      simp only [List.mem_cons, List.not_mem_nil, or_false] at hy
      omega
    clear hy
    have kf := F.out.cell
    have lf := F.out.lt
    have ff := F.out.frozen
    have D9 := Lib.hid (D.out.set (p := ⟨fb, 0, none⟩) (Nat.le_of_succ_le ZF.out) (.int .i64 y))
    have R9 := Lib.hid (R.out.far (p := ⟨fb, 0, none⟩) (fun e => by have eq : w.heap.size = fb := e; have := ZF.out; omega) (.int .i64 y))
    have O9 := Lib.hid (O.out.far (p := ⟨fb, 0, none⟩) (fun e => by have := NF.out fb e; omega) (.int .i64 y))
    have F9 := Lib.hid (F.out.set_ 0 (.int .i64 y))
    go_upto_region 10 with fail
    generalize World.setCell w6 _ _ = W9 at *
    clear kf lf ff D F R O
    have D := D9
    have F := F9
    have R := R9
    have O := O9
    clear D9 F9 R9 O9
    have kr := R.out.cell
    have fr := R.out.frozen
    have lr := R.out.lt
    have kf := F.out.cell
    have lf := F.out.lt
    go_wp2
    refine bodyPost_ret (v := .agg #[.int .i64 y, .slice A ns.length c]) (by simp [results, Tryz.results48, go_sem, kr, fr, lr]) rfl ⟨_, _, (li ns), rfl, by omega, by rw [li_length]; omega, ?_, ?_, ?_⟩
    · exact ((O.out.setBelow (p := ⟨w.heap.size, 0, none⟩) (Nat.lt_succ_self _) _).setBelow (p := ⟨w.heap.size, 1, none⟩) (Nat.lt_succ_self _) _).mono HB.out
    · exact ((D.out.set (p := ⟨w.heap.size, 0, none⟩) (Nat.le_refl _) _).set (p := ⟨w.heap.size, 1, none⟩) (Nat.le_refl _) _).S
    · exact ((D.out.set (p := ⟨w.heap.size, 0, none⟩) (Nat.le_refl _) _).set (p := ⟨w.heap.size, 1, none⟩) (Nat.le_refl _) _).gr
/- The reference's drawing functions of frames and models, by the shape of what they draw (written by program, gendr2.py). -/
set_option maxRecDepth 100000 in
set_option maxHeartbeats 4000000 in
theorem spec_l06Some (w0 : World) (v : Value) (xs : List (Fin 256)) (w : World) (g : Nat) (worlds : Nat) (S : Src 111 w0 v xs w g) (h8 : worlds ≤ 8) :
    Calls Tryz.prog 117 #[.pointer (some ⟨g, 0, none⟩), .int .i64 (worlds : Int)] w fun e w' => ∃ (u1 u2 : Value) (L1 L2 : List Int), e = .returned (.agg #[.int .i64 (L1.length : Int), u1, u2]) ∧ L1.length ≤ 8 ∧ L2.length = 6 ∧ Ow cI 2 w.heap.size w' u1 L1 ∧ Ow cI 2 w.heap.size w' u2 L2 ∧ (∀ k, u1.ownBlock = some k → u2.ownBlock ≠ some k) ∧ Src 111 w0 v xs w' g ∧ w.grownBy w' (some g) := by
  have D := Lib.hid (Dg.start S)
  clear S
  go_enter Tryz.func117, Tryz.ntmps117
  have R0 := Blk.new w 28 #[.int .i64 0, .slice none 0 0, .slice none 0 0]
  have HB : Hid (w.heap.size ≤ w.heap.size + 1) := Lib.hid (Nat.le_succ _)
  go_upto_region 1 with fail
  have hb := below_alloc' w (.cells #[.int .i64 0, .slice none 0 0, .slice none 0 0] 28)
  have R := Lib.hid R0
  clear R0
  replace D := Lib.hid (D.out.below hb)
  clear hb
  generalize World.alloc w _ = W at *
  go_wp2_with fail
  refine (spec_l05Some _ _ _ _ _ worlds D.out.S h8).mono ?_
  rintro e w1 ⟨u, ns, rfl, hn, hr, O, hS, hg⟩
  replace O := Lib.hid (O.mono (R.out.lt))
  replace R := Lib.hid (D.out.blk R.out (Nat.le_refl _) hg)
  replace D := Lib.hid (D.out.call hS hg)
  clear hS hg
  have hn8 : ns.length ≤ 8 := by omega
  obtain ⟨A, c, rfl⟩ := O.out.opn
  rw [li_length] at O ⊢
  have NB := Lib.hid (O.out.block)
  go_upto_region 2 with fail
  have hb := below_alloc' w1 (.cells #[.int .i64 (ns.length : Int), .slice A ns.length c] 26)
  have F := Lib.hid (Blk.new w1 26 #[.int .i64 (ns.length : Int), .slice A ns.length c])
  have ZF : Hid (w.heap.size + 1 ≤ w1.heap.size) := Lib.hid R.out.lt
  replace O := Lib.hid (O.out.below hb)
  replace R := Lib.hid (R.out.below hb R.out.lt)
  replace D := Lib.hid (D.out.below hb)
  clear hb
  obtain ⟨fb, hfb⟩ : ∃ b, w1.heap.size = b := ⟨_, rfl⟩
  generalize hW2 : World.alloc w1 _ = WF at *
  rw [hfb] at F ZF ⊢
  have NF : Hid (∀ k, (Value.slice A ns.length c).ownBlock = some k → k < fb) := Lib.hid (fun k hk => by have := (NB.out k hk).2; omega)
  clear NB
  clear hW2 hfb
  have kf := F.out.cell
  have lf := F.out.lt
  go_upto_region 3 with fail
  have hb := below_alloc' WF (.cells #[.int .i64 (ns.length : Int), .slice A ns.length c, .slice none 0 0] 28)
  have M := Lib.hid (Blk.new WF 28 #[.int .i64 (ns.length : Int), .slice A ns.length c, .slice none 0 0])
  have ZM : Hid (w.heap.size + 1 ≤ WF.heap.size) := Lib.hid R.out.lt
  replace O := Lib.hid (O.out.below hb)
  replace R := Lib.hid (R.out.below hb R.out.lt)
  replace F := Lib.hid (F.out.below hb F.out.lt)
  replace D := Lib.hid (D.out.below hb)
  clear hb
  obtain ⟨mb, hmb⟩ : ∃ b, WF.heap.size = b := ⟨_, rfl⟩
  generalize hW2 : World.alloc WF _ = WM at *
  rw [hmb] at M ZM ⊢
  have NM : Hid (fb < mb) := Lib.hid (by omega)
  clear hW2 hmb kf lf
  obtain ⟨F2, hF2⟩ : ∃ F2, F2 = 2 ^ ns.length - 1 := ⟨_, rfl⟩
  have hp2 := two_pow_256 hn8
  have hF256 : F2 < 256 := by have := Nat.pow_pos (n := ns.length) (show 0 < 2 by decide); omega
  have HF2 := Lib.hid hF2
  clear hF2 hp2
  go_wp2
  go_loopw [7] (fun i wr => ∃ (j : Nat) (V : Value) (L : List Int), i = .int .i64 (j : Int) ∧ j ≤ 6 ∧ L.length = j ∧ Ow cI 2 (mb + 1) wr V L ∧ Ow cI 2 (w.heap.size + 1) wr (.slice A ns.length c) (li ns) ∧ Dg w0 v xs g w wr ∧ Blk wr w.heap.size 28 #[.int .i64 0, .slice none 0 0, .slice none 0 0] ∧ Blk wr fb 26 #[.int .i64 (ns.length : Int), .slice A ns.length c] ∧ Blk wr mb 28 #[.int .i64 (ns.length : Int), .slice A ns.length c, V]) (fun i _ => 6 - (intOf i).toNat)
  case atStart => exact ⟨0, _, [], rfl, by omega, rfl, Ow.nil _ _, O.out, D.out, R.out, F.out, M.out⟩
  case round =>
    clear O D R F M
    obtain ⟨j, V, L, rfl, hj, hL, OV, O, D, R, F, M⟩ := hrel
    obtain ⟨AV, cV, rfl⟩ := OV.opn
    rw [hL] at OV M
    replace OV := Lib.hid OV
    replace O := Lib.hid O
    replace D := Lib.hid D
    replace R := Lib.hid R
    replace F := Lib.hid F
    replace M := Lib.hid M
    by_cases h6 : j < 6
    · have HL := Lib.hid hL
      clear hL
      have HV := Lib.hid (OV.out.sl.below (Below.refl _ _).drew)
      clear OV
      go_upto_region 6 with fail
      have hb := (Below.refl wr.heap.size wr).drew
      replace O := Lib.hid (O.out.below hb)
      replace R := Lib.hid (R.out.below hb R.out.lt)
      replace F := Lib.hid (F.out.below hb F.out.lt)
      replace M := Lib.hid (M.out.below hb M.out.lt)
      replace D := Lib.hid (D.out.below hb)
      clear hb
      have hI : (fun X : World => X.cell? ⟨mb, 2, none⟩ = some (.slice AV j cV) ∧ X.cell? ⟨fb, 0, none⟩ = some (.int .i64 (ns.length : Int))) (World.drew wr) := ⟨M.out.cell 2, F.out.cell 0⟩
      refine wp_region_sched (fun X => X.cell? ⟨mb, 2, none⟩ = some (.slice AV j cV) ∧ X.cell? ⟨fb, 0, none⟩ = some (.int .i64 (ns.length : Int))) 10 [0, 1, 3, 4, 5, 7] [0, 1, 3, 4, 5, 2, 6, 7, 8, 9] (by kernel_rfl) (by kernel_rfl) hI ?_
      generalize World.drew wr = wrd at *
      repeat
        apply wpSched_q rfl rfl
        case h =>
          intro w' hI K hK
          have cc0 : w'.cell? ⟨mb, 2, none⟩ = some (.slice AV j cV) := hI.1
          have cc1 : w'.cell? ⟨fb, 0, none⟩ = some (.int .i64 (ns.length : Int)) := hI.2
          simp only [quietV, stillV]
          go_simp
          exact hK
        go_simp
      refine wpSched_r rfl rfl ?_ hI
      intro K hK _
      go_simp
      refine (spec_l01Own _ L _ HV.out (by rw [HL.out]; omega)).mono ?_
      rintro e w2 ⟨u2, rfl, O2, hb⟩
      have N2 : Hid (∀ k, u2.ownBlock = some k → mb + 1 ≤ k) := Lib.hid (fun k hk => by have := (O2.block k hk).1; have := M.out.lt; omega)
      replace O2 := Lib.hid (O2.mono (R.out.lt))
      replace O := Lib.hid (O.out.below hb)
      replace R := Lib.hid (R.out.below hb R.out.lt)
      replace F := Lib.hid (F.out.below hb F.out.lt)
      replace M := Lib.hid (M.out.below hb M.out.lt)
      replace D := Lib.hid (D.out.below hb)
      clear hb
      clear HV
      clear hI
      have hI : (fun X : World => X.cell? ⟨mb, 2, none⟩ = some (.slice AV j cV) ∧ X.cell? ⟨fb, 0, none⟩ = some (.int .i64 (ns.length : Int))) w2 := ⟨M.out.cell 2, F.out.cell 0⟩
      refine hK _ _ hI ?_
      clear hK K
      repeat
        apply wpSched_q rfl rfl
        case h =>
          intro w' hI K hK
          have cc0 : w'.cell? ⟨mb, 2, none⟩ = some (.slice AV j cV) := hI.1
          have cc1 : w'.cell? ⟨fb, 0, none⟩ = some (.int .i64 (ns.length : Int)) := hI.2
          simp only [quietV, stillV]
          go_simp
          exact hK
        go_simp
      refine wpSched_r rfl rfl ?_ hI
      intro K hK _
      go_simp
      refine (spec_l01Full' ns.length F2 HF2.out _ (by omega)).mono ?_
      rintro e w8 ⟨rfl, rfl⟩
      clear hI
      have hI : (fun X : World => X.cell? ⟨mb, 2, none⟩ = some (.slice AV j cV) ∧ X.cell? ⟨fb, 0, none⟩ = some (.int .i64 (ns.length : Int))) w2 := ⟨M.out.cell 2, F.out.cell 0⟩
      refine hK _ _ hI ?_
      clear hK K
      repeat
        apply wpSched_q rfl rfl
        case h =>
          intro w' hI K hK
          have cc0 : w'.cell? ⟨mb, 2, none⟩ = some (.slice AV j cV) := hI.1
          have cc1 : w'.cell? ⟨fb, 0, none⟩ = some (.int .i64 (ns.length : Int)) := hI.2
          simp only [quietV, stillV]
          go_simp
          exact hK
        go_simp
      refine wpSched_r rfl rfl ?_ hI
      intro K hK _
      go_simp
      rw [show IntKind.i64.wrap ((F2 : Int) + 1) = (F2 : Int) + 1 from IntWalk.i64_in _ ⟨by omega, by omega⟩]
      refine (spec_l01Next _ _ _ _ _ ((F2 : Int) + 1) D.out.S (by omega) (by omega)).mono ?_
      rintro e w3 ⟨k1, rfl, hk1, hS, hg, -⟩
      replace O := Lib.hid (D.out.passB O.out HB.out hg)
      replace O2 := Lib.hid (D.out.passB O2.out HB.out hg)
      replace R := Lib.hid (D.out.blk R.out (Nat.le_refl _) hg)
      replace F := Lib.hid (D.out.blk F.out (Nat.le_of_succ_le ZF.out) hg)
      replace M := Lib.hid (D.out.blk M.out (Nat.le_of_succ_le ZM.out) hg)
      replace D := Lib.hid (D.out.call hS hg)
      clear hS hg
      clear hk1
      clear hI
      have hI : (fun X : World => X.cell? ⟨mb, 2, none⟩ = some (.slice AV j cV) ∧ X.cell? ⟨fb, 0, none⟩ = some (.int .i64 (ns.length : Int))) w3 := ⟨M.out.cell 2, F.out.cell 0⟩
      refine hK _ _ hI ?_
      clear hK K
      repeat
        apply wpSched_q rfl rfl
        case h =>
          intro w' hI K hK
          have cc0 : w'.cell? ⟨mb, 2, none⟩ = some (.slice AV j cV) := hI.1
          have cc1 : w'.cell? ⟨fb, 0, none⟩ = some (.int .i64 (ns.length : Int)) := hI.2
          simp only [quietV, stillV]
          go_simp
          exact hK
        go_simp
      refine wpSched_r rfl rfl ?_ hI
      intro K hK _
      go_simp
      have hb := below_alloc' w3 (.cells #[.int .i64 (k1 : Int)] 2)
      have OL : Hid (Ow cI 2 (w.heap.size + 1) (World.alloc w3 (.cells #[.int .i64 (k1 : Int)] 2)) (.slice (some ⟨w3.heap.size, 0, none⟩) 1 1) [(k1 : Int)]) := Lib.hid (Ow.lit [(k1 : Int)] rfl rfl R.out.lt)
      replace O := Lib.hid (O.out.below hb)
      replace O2 := Lib.hid (O2.out.below hb)
      replace R := Lib.hid (R.out.below hb R.out.lt)
      replace F := Lib.hid (F.out.below hb F.out.lt)
      replace M := Lib.hid (M.out.below hb M.out.lt)
      replace D := Lib.hid (D.out.below hb)
      clear hb
      generalize World.alloc w3 _ = w3l at *
      clear hI
      have hI : (fun X : World => X.cell? ⟨mb, 2, none⟩ = some (.slice AV j cV) ∧ X.cell? ⟨fb, 0, none⟩ = some (.int .i64 (ns.length : Int))) w3l := ⟨M.out.cell 2, F.out.cell 0⟩
      refine hK _ _ hI ?_
      clear hK K
      repeat
        apply wpSched_q rfl rfl
        case h =>
          intro w' hI K hK
          simp only [quietV, stillV]
          go_simp
          exact hK
        go_simp
      refine wpSched_nil ?_
      try simp only [List.drop_succ_cons, List.drop_zero, List.drop_nil]
      obtain ⟨A2, c2, rfl⟩ := O2.out.opn
      rw [HL.out] at O2 N2 ⊢
      have bsz : w.heap.size + 1 ≤ _ := R.out.lt
      refine ap_any (K := cI) _ ty_int64 rfl _ _ rfl (B := w.heap.size + 1) (v := .slice A2 j c2) (xs := L) rfl O2.out (news := [(k1 : Int)]) rfl rfl OL.out.sl.rdA (by rw [HL.out, List.length_singleton]; omega) bsz ?_
      intro v1 w9 ho1 hg1 hb1 hat1
      have O9 := ho1.raise' (B' := mb + 1) (fun k hk => by
        have hlt := M.out.lt
        rcases hat1 with h1 | h1
        · exact N2.out k (h1 ▸ hk)
        · rw [h1] at hk; injection hk with hk; omega)
      have D9 := Lib.hid ((D.out.grown hg1 (fun q e => by have := (O2.out.block q e).1; omega)).set (p := ⟨mb, 2, none⟩) (Nat.le_of_succ_le ZM.out) v1)
      have M8 := M.out.grown hg1 (fun e => by have := N2.out mb e.symm; omega)
      have F9 := Lib.hid ((F.out.grown hg1 (fun e => by have := N2.out fb e.symm; have := NM.out; omega)).far (p := ⟨mb, 2, none⟩) (fun e => by have eq : fb = mb := e; have := NM.out; omega) v1)
      have R9 := Lib.hid ((R.out.grown hg1 (fun e => by have := (O2.out.block _ e.symm).1; omega)).far (p := ⟨mb, 2, none⟩) (fun e => by have eq : w.heap.size = mb := e; have := ZM.out; omega) v1)
      have OO := Lib.hid ((O.out.kept hg1 (by
        cases hv : Value.ownBlock (.slice A ns.length c) with
        | none => exact .inl rfl
        | some q => exact .inr (fun e => by have h1 := NF.out q hv; have h2 := N2.out q e.symm; have := NM.out; omega))).far (p := ⟨mb, 2, none⟩) (fun e => by have h1 := NF.out mb e; have := NM.out; omega) v1)
      have OW := Lib.hid (O9.far (p := ⟨mb, 2, none⟩) (fun e => by have := (O9.block mb e).1; omega) v1)
      have M9 := Lib.hid (M8.set_ 2 v1)
      have lM := M8.lt
      have fM := M8.frozen
      have kM := M8.cell
      obtain ⟨A9, c9, hv9⟩ := ho1.opn
      rw [List.length_append, List.length_singleton, HL.out] at hv9
      subst hv9
      have HL9 : Hid ((L ++ [(k1 : Int)]).length = j + 1) := Lib.hid (by rw [List.length_append, HL.out]; rfl)
      clear ho1 hg1 hb1 hat1 D F R O M hI O9 M8 OL O2
      go_wp2
      exact ⟨⟨j + 1, _, L ++ [(k1 : Int)], by go_num, by omega, HL9.out, OW.out, OO.out, D9.out, R9.out, F9.out, M9.out⟩, by simp [intOf]; omega⟩
    · obtain rfl : j = 6 := by omega
      have kr := R.out.cell
      have fr := R.out.frozen
      have lr := R.out.lt
      have km := M.out.cell
      have lm := M.out.lt
      have E1 : Hid (w.heap.size + 1 ≤ mb + 1) := Lib.hid (by have := ZM.out; omega)
      have DJ : Hid (∀ k, (Value.slice A ns.length c).ownBlock = some k → (Value.slice AV 6 cV).ownBlock ≠ some k) := Lib.hid (fun k hk e => by have h1 := NF.out k hk; have h2 := (OV.out.block k e).1; have := NM.out; omega)
      have OV2 := Lib.hid (OV.out.mono E1.out)
      go_wp2
      refine bodyPost_ret (v := .agg #[.int .i64 (ns.length : Int), .slice A ns.length c, .slice AV 6 cV]) (by simp [results, Tryz.results117, go_sem, kr, fr, lr]) rfl ⟨_, _, li ns, L, by rw [li_length], by rw [li_length]; omega, hL, ?_, ?_, DJ.out, ?_, ?_⟩
      · exact ((((O.out.setBelow (p := ⟨w.heap.size, 0, none⟩) (Nat.lt_succ_self _) _).setBelow (p := ⟨w.heap.size, 1, none⟩) (Nat.lt_succ_self _) _).setBelow (p := ⟨w.heap.size, 2, none⟩) (Nat.lt_succ_self _) _)).mono HB.out
      · exact ((((OV2.out.setBelow (p := ⟨w.heap.size, 0, none⟩) (Nat.lt_succ_self _) _).setBelow (p := ⟨w.heap.size, 1, none⟩) (Nat.lt_succ_self _) _).setBelow (p := ⟨w.heap.size, 2, none⟩) (Nat.lt_succ_self _) _)).mono HB.out
      · exact ((((D.out.set (p := ⟨w.heap.size, 0, none⟩) (Nat.le_refl _) _).set (p := ⟨w.heap.size, 1, none⟩) (Nat.le_refl _) _).set (p := ⟨w.heap.size, 2, none⟩) (Nat.le_refl _) _)).S
      · exact ((((D.out.set (p := ⟨w.heap.size, 0, none⟩) (Nat.le_refl _) _).set (p := ⟨w.heap.size, 1, none⟩) (Nat.le_refl _) _).set (p := ⟨w.heap.size, 2, none⟩) (Nat.le_refl _) _)).gr
/- The reference's drawing functions of frames and models, by the shape of what they draw (written by program, gendr2.py). -/
set_option maxRecDepth 100000 in
set_option maxHeartbeats 4000000 in
theorem spec_l06Draw (w0 : World) (v : Value) (xs : List (Fin 256)) (w : World) (g : Nat) (worlds : Nat) (S : Src 111 w0 v xs w g) (h8 : worlds ≤ 8) :
    Calls Tryz.prog 89 #[.pointer (some ⟨g, 0, none⟩), .int .i64 (worlds : Int)] w fun e w' => ∃ (n : Int) (u1 u2 : Value) (L1 L2 : List Int), e = .returned (.agg #[.int .i64 n, u1, u2]) ∧ n ≤ 1000 ∧ L1.length ≤ 9 ∧ L2.length ≤ 6 ∧ Ro cI w.heap.size w' u1 L1 ∧ Ro cI w.heap.size w' u2 L2 ∧ Src 111 w0 v xs w' g ∧ w.grownBy w' (some g) := by
  have D := Lib.hid (Dg.start S)
  clear S
  go_enter Tryz.func89, Tryz.ntmps89
  have R0 := Blk.new w 28 #[.int .i64 0, .slice none 0 0, .slice none 0 0]
  have HB : Hid (w.heap.size ≤ w.heap.size + 1) := Lib.hid (Nat.le_succ _)
  go_upto_region 1 with fail
  have hb := below_alloc' w (.cells #[.int .i64 0, .slice none 0 0, .slice none 0 0] 28)
  have R := Lib.hid R0
  clear R0
  replace D := Lib.hid (D.out.below hb)
  clear hb
  generalize World.alloc w _ = W at *
  go_wp2_with fail
  refine (spec_l06Some _ _ _ _ _ worlds D.out.S h8).mono ?_
  rintro e w1 ⟨u1, u2, L1, L2, rfl, hL1, hL2, O1, O2, dj, hS, hg⟩
  replace O1 := Lib.hid (O1.mono (R.out.lt))
  replace O2 := Lib.hid (O2.mono (R.out.lt))
  replace R := Lib.hid (D.out.blk R.out (Nat.le_refl _) hg)
  replace D := Lib.hid (D.out.call hS hg)
  clear hS hg
  obtain ⟨A, c, rfl⟩ := O1.out.opn
  obtain ⟨g2, c2, rfl, hB2, hl2, -⟩ := O2.out.form (by omega)
  rw [hL2] at O2 dj ⊢
  obtain ⟨-, hc6, hcm⟩ := O2.out.sl.cap
  rw [hL2] at hc6
  have HC6 := Lib.hid hc6
  have HCM := Lib.hid hcm
  clear hcm
  have N1 := Lib.hid (O1.out.block)
  have N2 : Hid (w.heap.size + 1 ≤ g2) := Lib.hid hB2
  have DJ : Hid (∀ k, (Value.slice A L1.length c).ownBlock = some k → g2 ≠ k) := Lib.hid (fun k hk e => dj k hk (congrArg some e))
  clear dj
  go_upto_region 2 with fail
  have hb := below_alloc' w1 (.cells #[.int .i64 (L1.length : Int), .slice A L1.length c, .slice (some ⟨g2, 0, none⟩) 6 c2] 28)
  have M := Lib.hid (Blk.new w1 28 #[.int .i64 (L1.length : Int), .slice A L1.length c, .slice (some ⟨g2, 0, none⟩) 6 c2])
  have ZM : Hid (w.heap.size + 1 ≤ w1.heap.size) := Lib.hid R.out.lt
  replace O1 := Lib.hid (O1.out.below hb)
  replace O2 := Lib.hid (O2.out.below hb)
  replace R := Lib.hid (R.out.below hb R.out.lt)
  replace D := Lib.hid (D.out.below hb)
  clear hb
  obtain ⟨mb, hmb⟩ : ∃ b, w1.heap.size = b := ⟨_, rfl⟩
  generalize hW2 : World.alloc w1 _ = WM at *
  rw [hmb] at M ZM ⊢
  have M1 : Hid (∀ k, (Value.slice A L1.length c).ownBlock = some k → k < mb) := Lib.hid (fun k hk => by have := (N1.out k hk).2; omega)
  have M2 : Hid (g2 < mb) := Lib.hid (by omega)
  clear N1 hB2 hl2 hW2 hmb
  go_wp2_with fail
  refine (spec_l01Next _ _ _ _ _ 50 D.out.S (by decide) (by decide)).mono ?_
  rintro e w2 ⟨k, rfl, hk, hS, hg, -⟩
  replace O1 := Lib.hid (D.out.passB O1.out HB.out hg)
  replace O2 := Lib.hid (D.out.passB O2.out HB.out hg)
  replace R := Lib.hid (D.out.blk R.out (Nat.le_refl _) hg)
  replace M := Lib.hid (D.out.blk M.out (Nat.le_of_succ_le ZM.out) hg)
  replace D := Lib.hid (D.out.call hS hg)
  clear hS hg
  cases t0 : ((k : Int) == 0)
  · cases t1 : ((k : Int) == 1)
    · cases t2 : ((k : Int) == 2)
      · clear hk
        have kr := R.out.cell
        have fr := R.out.frozen
        have lr := R.out.lt
        have km := M.out.cell
        have lm := M.out.lt
        go_wp2
        refine bodyPost_ret (v := .agg #[.int .i64 (L1.length : Int), .slice A L1.length c, .slice (some ⟨g2, 0, none⟩) 6 c2]) (by simp [results, Tryz.results89, go_sem, kr, fr, lr]) rfl ⟨_, _, _, L1, L2, rfl, by omega, by omega, by omega, ?_, ?_, ?_, ?_⟩
        · exact (((((O1.out.setBelow (p := ⟨w.heap.size, 0, none⟩) (Nat.lt_succ_self _) _).setBelow (p := ⟨w.heap.size, 1, none⟩) (Nat.lt_succ_self _) _).setBelow (p := ⟨w.heap.size, 2, none⟩) (Nat.lt_succ_self _) _)).mono HB.out).ro
        · exact (((((O2.out.setBelow (p := ⟨w.heap.size, 0, none⟩) (Nat.lt_succ_self _) _).setBelow (p := ⟨w.heap.size, 1, none⟩) (Nat.lt_succ_self _) _).setBelow (p := ⟨w.heap.size, 2, none⟩) (Nat.lt_succ_self _) _)).mono HB.out).ro
        · exact ((((D.out.set (p := ⟨w.heap.size, 0, none⟩) (Nat.le_refl _) _).set (p := ⟨w.heap.size, 1, none⟩) (Nat.le_refl _) _).set (p := ⟨w.heap.size, 2, none⟩) (Nat.le_refl _) _)).S
        · exact ((((D.out.set (p := ⟨w.heap.size, 0, none⟩) (Nat.le_refl _) _).set (p := ⟨w.heap.size, 1, none⟩) (Nat.le_refl _) _).set (p := ⟨w.heap.size, 2, none⟩) (Nat.le_refl _) _)).gr
      · clear hk hc6
        obtain ⟨F2, hF2⟩ : ∃ F2, F2 = 2 ^ L1.length - 1 := ⟨_, rfl⟩
        have hp2 := two_pow_256 hL1
        have hF256 : F2 < 256 := by have := Nat.pow_pos (n := L1.length) (show 0 < 2 by decide); omega
        have HF2 := Lib.hid hF2
        clear hF2 hp2
        go_upto_region 8 with fail
        have hb := (Below.refl w2.heap.size w2).drew
        replace O1 := Lib.hid (O1.out.below hb)
        replace O2 := Lib.hid (O2.out.below hb)
        replace R := Lib.hid (R.out.below hb R.out.lt)
        replace M := Lib.hid (M.out.below hb M.out.lt)
        replace D := Lib.hid (D.out.below hb)
        clear hb
        have hI : (fun X : World => X.cell? ⟨mb, 2, none⟩ = some (.slice (some ⟨g2, 0, none⟩) 6 c2) ∧ X.cell? ⟨mb, 0, none⟩ = some (.int .i64 (L1.length : Int))) (World.drew w2) := ⟨M.out.cell 2, M.out.cell 0⟩
        refine wp_region_sched (fun X => X.cell? ⟨mb, 2, none⟩ = some (.slice (some ⟨g2, 0, none⟩) 6 c2) ∧ X.cell? ⟨mb, 0, none⟩ = some (.int .i64 (L1.length : Int))) 13 [0, 1, 2, 4, 5, 6, 7, 9, 12] [0, 1, 2, 4, 5, 6, 7, 3, 8, 9, 10, 11, 12] (by kernel_rfl) (by kernel_rfl) hI ?_
        generalize World.drew w2 = w2d at *
        repeat
          apply wpSched_q rfl rfl
          case h =>
            intro w' hI K hK
            have cc0 : w'.cell? ⟨mb, 2, none⟩ = some (.slice (some ⟨g2, 0, none⟩) 6 c2) := hI.1
            have cc1 : w'.cell? ⟨mb, 0, none⟩ = some (.int .i64 (L1.length : Int)) := hI.2
            simp only [quietV, stillV]
            go_simp
            exact hK
          go_simp
        refine wpSched_r rfl rfl ?_ hI
        intro K hK _
        go_simp
        refine (spec_l01Next _ _ _ _ _ 6 D.out.S (by decide) (by decide)).mono ?_
        rintro e w3 ⟨k1, rfl, hk1, hS, hg, -⟩
        replace O1 := Lib.hid (D.out.passB O1.out HB.out hg)
        replace O2 := Lib.hid (D.out.passB O2.out HB.out hg)
        replace R := Lib.hid (D.out.blk R.out (Nat.le_refl _) hg)
        replace M := Lib.hid (D.out.blk M.out (Nat.le_of_succ_le ZM.out) hg)
        replace D := Lib.hid (D.out.call hS hg)
        clear hS hg
        have hk1' : k1 < 6 := by omega
        have hk1i : (k1 : Int) < 6 := by omega
        clear hk1
        clear hI
        have hI : (fun X : World => X.cell? ⟨mb, 2, none⟩ = some (.slice (some ⟨g2, 0, none⟩) 6 c2) ∧ X.cell? ⟨mb, 0, none⟩ = some (.int .i64 (L1.length : Int))) w3 := ⟨M.out.cell 2, M.out.cell 0⟩
        refine hK _ _ hI ?_
        clear hK K
        repeat
          apply wpSched_q rfl rfl
          case h =>
            intro w' hI K hK
            have cc0 : w'.cell? ⟨mb, 2, none⟩ = some (.slice (some ⟨g2, 0, none⟩) 6 c2) := hI.1
            have cc1 : w'.cell? ⟨mb, 0, none⟩ = some (.int .i64 (L1.length : Int)) := hI.2
            simp only [quietV, stillV]
            go_simp
            exact hK
          go_simp
        refine wpSched_r rfl rfl ?_ hI
        intro K hK _
        go_simp
        refine (spec_l01Full' L1.length F2 HF2.out _ (by omega)).mono ?_
        rintro e w8 ⟨rfl, rfl⟩
        clear hI
        have hI : (fun X : World => X.cell? ⟨mb, 2, none⟩ = some (.slice (some ⟨g2, 0, none⟩) 6 c2) ∧ X.cell? ⟨mb, 0, none⟩ = some (.int .i64 (L1.length : Int))) w3 := ⟨M.out.cell 2, M.out.cell 0⟩
        refine hK _ _ hI ?_
        clear hK K
        repeat
          apply wpSched_q rfl rfl
          case h =>
            intro w' hI K hK
            have cc0 : w'.cell? ⟨mb, 2, none⟩ = some (.slice (some ⟨g2, 0, none⟩) 6 c2) := hI.1
            have cc1 : w'.cell? ⟨mb, 0, none⟩ = some (.int .i64 (L1.length : Int)) := hI.2
            simp only [quietV, stillV]
            go_simp
            exact hK
          go_simp
        refine wpSched_r rfl rfl ?_ hI
        intro K hK _
        go_simp
        rw [show IntKind.i64.wrap ((F2 : Int) + 1) = (F2 : Int) + 1 from IntWalk.i64_in _ ⟨by omega, by omega⟩]
        have hb := below_alloc' w3 (.cells #[.int .i64 (-1), .int .i64 ((F2 : Int) + 1)] 2)
        have OL : Hid (Ow cI 2 (w.heap.size + 1) (World.alloc w3 (.cells #[.int .i64 (-1), .int .i64 ((F2 : Int) + 1)] 2)) (.slice (some ⟨w3.heap.size, 0, none⟩) 2 2) [(-1), ((F2 : Int) + 1)]) := Lib.hid (Ow.lit [(-1), ((F2 : Int) + 1)] rfl rfl R.out.lt)
        replace O1 := Lib.hid (O1.out.below hb)
        replace O2 := Lib.hid (O2.out.below hb)
        replace R := Lib.hid (R.out.below hb R.out.lt)
        replace M := Lib.hid (M.out.below hb M.out.lt)
        replace D := Lib.hid (D.out.below hb)
        clear hb
        generalize World.alloc w3 _ = w3l at *
        clear hI
        have hI : (fun X : World => X.cell? ⟨mb, 2, none⟩ = some (.slice (some ⟨g2, 0, none⟩) 6 c2) ∧ X.cell? ⟨mb, 0, none⟩ = some (.int .i64 (L1.length : Int))) w3l := ⟨M.out.cell 2, M.out.cell 0⟩
        refine hK _ _ hI ?_
        clear hK K
        repeat
          apply wpSched_q rfl rfl
          case h =>
            intro w' hI K hK
            have cc0 : w'.cell? ⟨mb, 2, none⟩ = some (.slice (some ⟨g2, 0, none⟩) 6 c2) := hI.1
            have cc1 : w'.cell? ⟨mb, 0, none⟩ = some (.int .i64 (L1.length : Int)) := hI.2
            simp only [quietV, stillV]
            go_simp
            exact hK
          go_simp
        refine wpSched_r rfl rfl ?_ hI
        intro K hK _
        go_simp
        refine (spec_l01Pick _ _ _ _ _ _ [(-1), ((F2 : Int) + 1)] D.out.S OL.out.sl (by have := OL.out; have hb2 := OL.out.block; exact .inr (fun e => by have := hb2 _ e; have := D.out.lt; omega)) (by simp) (by simp)).mono ?_
        rintro e w4 ⟨y, rfl, -, hS, hg, -⟩
        clear OL
        replace O1 := Lib.hid (D.out.passB O1.out HB.out hg)
        replace O2 := Lib.hid (D.out.passB O2.out HB.out hg)
        replace R := Lib.hid (D.out.blk R.out (Nat.le_refl _) hg)
        replace M := Lib.hid (D.out.blk M.out (Nat.le_of_succ_le ZM.out) hg)
        replace D := Lib.hid (D.out.call hS hg)
        clear hS hg
        clear hI
        have hI : (fun X : World => X.cell? ⟨mb, 2, none⟩ = some (.slice (some ⟨g2, 0, none⟩) 6 c2) ∧ X.cell? ⟨mb, 0, none⟩ = some (.int .i64 (L1.length : Int))) w4 := ⟨M.out.cell 2, M.out.cell 0⟩
        refine hK _ _ hI ?_
        clear hK K
        repeat
          apply wpSched_q rfl rfl
          case h =>
            intro w' hI K hK
            simp only [quietV, stillV]
            go_simp
            exact hK
          go_simp
        refine wpSched_nil ?_
        try simp only [List.drop_succ_cons, List.drop_zero, List.drop_nil]
        have hmt : k1 < L2.length := by rw [hL2]; exact hk1'
        obtain ⟨c2x, f2x, gB, gl⟩ := O2.out.at1 rfl hmt rfl
        have O9 := Lib.hid (O2.out.set1 (j := k1) (x := y) (u := .int .i64 y) rfl rfl hmt)
        have L9 : Hid ((L2.set k1 y).length ≤ 6) := Lib.hid (by rw [List.length_set]; omega)
        have D9 := Lib.hid (D.out.set (p := ⟨g2, k1, none⟩) (show w.heap.size ≤ g2 by omega) (.int .i64 y))
        have M9 := Lib.hid (M.out.far (p := ⟨g2, k1, none⟩) (fun e => by have eq : mb = g2 := e; have := M2.out; omega) (.int .i64 y))
        have R9 := Lib.hid (R.out.far (p := ⟨g2, k1, none⟩) (fun e => by have eq : w.heap.size = g2 := e; omega) (.int .i64 y))
        have P9 := Lib.hid (O1.out.far (p := ⟨g2, k1, none⟩) (fun e => by exact DJ.out g2 e rfl) (.int .i64 y))
        clear hI O1 O2 D M R
        have O1 := P9
        have O2 := O9
        have D := D9
        have M := M9
        have R := R9
        clear O9 D9 M9 R9 P9
        go_upto_region 9 with fail
        generalize World.setCell w4 _ _ = W9 at *
        clear c2x f2x
        have kr := R.out.cell
        have fr := R.out.frozen
        have lr := R.out.lt
        have km := M.out.cell
        have lm := M.out.lt
        go_wp2
        refine bodyPost_ret (v := .agg #[.int .i64 (L1.length : Int), .slice A L1.length c, .slice (some ⟨g2, 0, none⟩) 6 c2]) (by simp [results, Tryz.results89, go_sem, kr, fr, lr]) rfl ⟨_, _, _, L1, (L2.set k1 y), rfl, by omega, by omega, L9.out, ?_, ?_, ?_, ?_⟩
        · exact (((((O1.out.setBelow (p := ⟨w.heap.size, 0, none⟩) (Nat.lt_succ_self _) _).setBelow (p := ⟨w.heap.size, 1, none⟩) (Nat.lt_succ_self _) _).setBelow (p := ⟨w.heap.size, 2, none⟩) (Nat.lt_succ_self _) _)).mono HB.out).ro
        · exact (((((O2.out.setBelow (p := ⟨w.heap.size, 0, none⟩) (Nat.lt_succ_self _) _).setBelow (p := ⟨w.heap.size, 1, none⟩) (Nat.lt_succ_self _) _).setBelow (p := ⟨w.heap.size, 2, none⟩) (Nat.lt_succ_self _) _)).mono HB.out).ro
        · exact ((((D.out.set (p := ⟨w.heap.size, 0, none⟩) (Nat.le_refl _) _).set (p := ⟨w.heap.size, 1, none⟩) (Nat.le_refl _) _).set (p := ⟨w.heap.size, 2, none⟩) (Nat.le_refl _) _)).S
        · exact ((((D.out.set (p := ⟨w.heap.size, 0, none⟩) (Nat.le_refl _) _).set (p := ⟨w.heap.size, 1, none⟩) (Nat.le_refl _) _).set (p := ⟨w.heap.size, 2, none⟩) (Nat.le_refl _) _)).gr
    · clear hk
      have hne1 : ¬ c2 = 1 := by omega
      have hle1 : 1 ≤ c2 := by omega
      have km := M.out.cell
      have lm := M.out.lt
      have fm := M.out.frozen
      have D9 := Lib.hid (D.out.set (p := ⟨mb, 2, none⟩) (Nat.le_of_succ_le ZM.out) (.slice (some ⟨g2, 1, none⟩) 5 (c2 - 1)))
      have R9 := Lib.hid (R.out.far (p := ⟨mb, 2, none⟩) (fun e => by have eq : w.heap.size = mb := e; have := ZM.out; omega) (.slice (some ⟨g2, 1, none⟩) 5 (c2 - 1)))
      have P9 := Lib.hid (O1.out.far (p := ⟨mb, 2, none⟩) (fun e => by have := M1.out mb e; omega) (.slice (some ⟨g2, 1, none⟩) 5 (c2 - 1)))
      have O9 := Lib.hid (O2.out.far (p := ⟨mb, 2, none⟩) (fun e => by have eq : g2 = mb := Option.some.inj e; have := M2.out; omega) (.slice (some ⟨g2, 1, none⟩) 5 (c2 - 1)))
      have M9 := Lib.hid (M.out.set_ 2 (.slice (some ⟨g2, 1, none⟩) 5 (c2 - 1)))
      go_upto_region 9 with fail
      generalize World.setCell w2 _ _ = W9 at *
      clear km lm fm D R M O1 O2
      have O1 := P9
      have O2 := O9
      have D := D9
      have M := M9
      have R := R9
      clear O9 D9 M9 R9 P9
      have kr := R.out.cell
      have fr := R.out.frozen
      have lr := R.out.lt
      have km := M.out.cell
      have lm := M.out.lt
      go_wp2
      refine bodyPost_ret (v := .agg #[.int .i64 (L1.length : Int), .slice A L1.length c, .slice (some ⟨g2, 1, none⟩) 5 (c2 - 1)]) (by simp [results, Tryz.results89, go_sem, kr, fr, lr]) rfl ⟨_, _, _, L1, ((L2.drop 1).take (6 - 1)), rfl, by omega, by omega, by rw [List.length_take, List.length_drop]; omega, ?_, ?_, ?_, ?_⟩
      · exact (((((O1.out.setBelow (p := ⟨w.heap.size, 0, none⟩) (Nat.lt_succ_self _) _).setBelow (p := ⟨w.heap.size, 1, none⟩) (Nat.lt_succ_self _) _).setBelow (p := ⟨w.heap.size, 2, none⟩) (Nat.lt_succ_self _) _)).mono HB.out).ro
      · exact ⟨((((((O2.out.setBelow (p := ⟨w.heap.size, 0, none⟩) (Nat.lt_succ_self _) _).setBelow (p := ⟨w.heap.size, 1, none⟩) (Nat.lt_succ_self _) _).setBelow (p := ⟨w.heap.size, 2, none⟩) (Nat.lt_succ_self _) _)).mono HB.out)).sl.cutAt (i := 1) (j := 6) (by omega) (by omega) rfl (fun b o e => by injection e with e; injection e with e1 e2; subst e1; subst e2; rfl) (by have := HC6.out; omega) (by have := HCM.out; omega), fun k hk => by have eq : g2 = k := Option.some.inj hk; subst eq; exact ((((((O2.out.setBelow (p := ⟨w.heap.size, 0, none⟩) (Nat.lt_succ_self _) _).setBelow (p := ⟨w.heap.size, 1, none⟩) (Nat.lt_succ_self _) _).setBelow (p := ⟨w.heap.size, 2, none⟩) (Nat.lt_succ_self _) _)).mono HB.out)).block _ rfl⟩
      · exact ((((D.out.set (p := ⟨w.heap.size, 0, none⟩) (Nat.le_refl _) _).set (p := ⟨w.heap.size, 1, none⟩) (Nat.le_refl _) _).set (p := ⟨w.heap.size, 2, none⟩) (Nat.le_refl _) _)).S
      · exact ((((D.out.set (p := ⟨w.heap.size, 0, none⟩) (Nat.le_refl _) _).set (p := ⟨w.heap.size, 1, none⟩) (Nat.le_refl _) _).set (p := ⟨w.heap.size, 2, none⟩) (Nat.le_refl _) _)).gr
  · clear hk hc6
    go_wp2_with fail
    refine (spec_l05Draw _ _ _ _ _ worlds D.out.S h8).mono ?_
    rintro e w5 ⟨n3, u3, L3, rfl, hn3, hL3, O3, hS, hg⟩
    have N3 : Hid (∀ k, u3.ownBlock = some k → mb < k) := Lib.hid (fun k hk => by have := (O3.block k hk).1; have := M.out.lt; omega)
    replace O3 := Lib.hid (O3.mono (R.out.lt))
    replace O1 := Lib.hid (D.out.passB O1.out HB.out hg)
    replace O2 := Lib.hid (D.out.passB O2.out HB.out hg)
    replace R := Lib.hid (D.out.blk R.out (Nat.le_refl _) hg)
    replace M := Lib.hid (D.out.blk M.out (Nat.le_of_succ_le ZM.out) hg)
    replace D := Lib.hid (D.out.call hS hg)
    clear hS hg
    obtain ⟨A3, c3, rfl⟩ := O3.out.opn
    have km := M.out.cell
    have lm := M.out.lt
    have fm := M.out.frozen
    have D9 := Lib.hid (((D.out).set (p := ⟨mb, 0, none⟩) (Nat.le_of_succ_le ZM.out) (.int .i64 n3)).set (p := ⟨mb, 1, none⟩) (Nat.le_of_succ_le ZM.out) (.slice A3 L3.length c3))
    have R9 := Lib.hid (((R.out).far (p := ⟨mb, 0, none⟩) (fun e => by have eq : w.heap.size = mb := e; have := ZM.out; omega) (.int .i64 n3)).far (p := ⟨mb, 1, none⟩) (fun e => by have eq : w.heap.size = mb := e; have := ZM.out; omega) (.slice A3 L3.length c3))
    have O9 := Lib.hid (((O2.out).far (p := ⟨mb, 0, none⟩) (fun e => by have eq : g2 = mb := Option.some.inj e; have := M2.out; omega) (.int .i64 n3)).far (p := ⟨mb, 1, none⟩) (fun e => by have eq : g2 = mb := Option.some.inj e; have := M2.out; omega) (.slice A3 L3.length c3))
    have P9 := Lib.hid (((O3.out).far (p := ⟨mb, 0, none⟩) (fun e => by have := N3.out mb e; omega) (.int .i64 n3)).far (p := ⟨mb, 1, none⟩) (fun e => by have := N3.out mb e; omega) (.slice A3 L3.length c3))
    have M9 := Lib.hid ((M.out.set_ 0 (.int .i64 n3)).set_ 1 (.slice A3 L3.length c3))
    go_upto_region 9 with fail
    generalize World.setCell (World.setCell w5 _ _) _ _ = W9 at *
    clear km lm fm D R M O1 O2 O3
    have O3 := P9
    have O2 := O9
    have D := D9
    have M := M9
    have R := R9
    clear O9 D9 M9 R9 P9
    have kr := R.out.cell
    have fr := R.out.frozen
    have lr := R.out.lt
    have km := M.out.cell
    have lm := M.out.lt
    go_wp2
    refine bodyPost_ret (v := .agg #[.int .i64 n3, .slice A3 L3.length c3, .slice (some ⟨g2, 0, none⟩) 6 c2]) (by simp [results, Tryz.results89, go_sem, kr, fr, lr]) rfl ⟨_, _, _, L3, L2, rfl, by omega, hL3, by omega, ?_, ?_, ?_, ?_⟩
    · exact (((((O3.out.setBelow (p := ⟨w.heap.size, 0, none⟩) (Nat.lt_succ_self _) _).setBelow (p := ⟨w.heap.size, 1, none⟩) (Nat.lt_succ_self _) _).setBelow (p := ⟨w.heap.size, 2, none⟩) (Nat.lt_succ_self _) _)).mono HB.out).ro
    · exact (((((O2.out.setBelow (p := ⟨w.heap.size, 0, none⟩) (Nat.lt_succ_self _) _).setBelow (p := ⟨w.heap.size, 1, none⟩) (Nat.lt_succ_self _) _).setBelow (p := ⟨w.heap.size, 2, none⟩) (Nat.lt_succ_self _) _)).mono HB.out).ro
    · exact ((((D.out.set (p := ⟨w.heap.size, 0, none⟩) (Nat.le_refl _) _).set (p := ⟨w.heap.size, 1, none⟩) (Nat.le_refl _) _).set (p := ⟨w.heap.size, 2, none⟩) (Nat.le_refl _) _)).S
    · exact ((((D.out.set (p := ⟨w.heap.size, 0, none⟩) (Nat.le_refl _) _).set (p := ⟨w.heap.size, 1, none⟩) (Nat.le_refl _) _).set (p := ⟨w.heap.size, 2, none⟩) (Nat.le_refl _) _)).gr
/- The reference's drawing functions of frames and models, by the shape of what they draw (written by program, gendr2.py). -/
section
variable {w0 : World} {v : Value} {xs : List (Fin 256)} {g : Nat} {w X Y : World} {α : Type} {K : Cod α} {u : Value} {L : List α} {B : Nat}
theorem Dg.passR (d : Dg w0 v xs g w X) (h : Ro K B X u L) (hB : w.heap.size ≤ B) (hg : X.grownBy Y (some g)) : Ro K B Y u L :=
  ⟨h.1.grown hg (by
    have := d.lt
    cases hv : u.ownBlock with
    | none => exact .inl rfl
    | some k => exact .inr (fun e => by injection e; have := (h.2 k hv).1; omega)), fun k hk => ⟨(h.2 k hk).1, Nat.lt_of_lt_of_le (h.2 k hk).2 hg.size⟩⟩
theorem Ro.far (h : Ro K B X u L) {p : Addr} (hp : u.ownBlock ≠ some p.block) (x : Value) : Ro K B (X.setCell p x) u L :=
  ⟨h.1.grown (row := some p.block) ⟨rfl, rfl, rfl, by simp [World.setCell], fun i _ hne => Below.heap_setCell _ _ _ _ (fun e => hne (by rw [e]))⟩ (.inr hp), fun k hk => ⟨(h.2 k hk).1, by have := (h.2 k hk).2; simpa [World.setCell] using this⟩⟩
theorem Ro.low (h : Ro K B X u L) {p : Addr} (hp : p.block < B) (x : Value) : Ro K B (X.setCell p x) u L := h.far (fun e => by have := (h.2 _ e).1; omega) x
end
set_option maxRecDepth 100000 in
set_option maxHeartbeats 4000000 in
theorem spec_l14Drawn (w0 : World) (v : Value) (xs : List (Fin 256)) (w : World) (g : Nat) (S : Src 111 w0 v xs w g) :
    Calls Tryz.prog 46 #[.pointer (some ⟨g, 0, none⟩)] w fun e w' => ∃ (n : Int) (u1 u2 u3 : Value) (L1 L2 : List Int) (L3 : List Nd), e = .returned (.tuple #[.agg #[.int .i64 n, u1, u2], u3]) ∧ L1.length ≤ 9 ∧ L2.length ≤ 6 ∧ L3.length ≤ 1001 ∧ Ro cI w.heap.size w' u1 L1 ∧ Ro cI w.heap.size w' u2 L2 ∧ Ro cN w.heap.size w' u3 L3 ∧ Src 111 w0 v xs w' g ∧ w.grownBy w' (some g) := by
  have D := Lib.hid (Dg.start S)
  clear S
  go_enter Tryz.func46, Tryz.ntmps46
  have R0 := Blk.new w 28 #[.int .i64 0, .slice none 0 0, .slice none 0 0]
  have HB : Hid (w.heap.size ≤ w.heap.size + 1) := Lib.hid (Nat.le_succ _)
  go_upto_region 1 with fail
  have hb := below_alloc' w (.cells #[.int .i64 0, .slice none 0 0, .slice none 0 0] 28)
  have R := Lib.hid R0
  clear R0
  replace D := Lib.hid (D.out.below hb)
  clear hb
  generalize World.alloc w _ = W at *
  go_wp2_with fail
  refine (spec_l01Next _ _ _ _ _ 6 D.out.S (by decide) (by decide)).mono ?_
  rintro e w1 ⟨k, rfl, hk, hS, hg, -⟩
  replace R := Lib.hid (D.out.blk R.out (Nat.le_refl _) hg)
  replace D := Lib.hid (D.out.call hS hg)
  clear hS hg
  have hk6 : 2 + k ≤ 8 := by omega
  clear hk
  go_wp2_with fail
  refine (show Calls Tryz.prog 89 #[.pointer (some ⟨g, 0, none⟩), .int .i64 (2 + (k : Int))] _ _ from spec_l06Draw _ _ _ _ _ (2 + k) D.out.S hk6).mono ?_
  rintro e w2 ⟨n, u1, u2, L1, L2, rfl, hnx, hL1, hL2, P1, P2, hS, hg⟩
  replace P1 := Lib.hid (P1.mono (R.out.lt))
  replace P2 := Lib.hid (P2.mono (R.out.lt))
  replace R := Lib.hid (D.out.blk R.out (Nat.le_refl _) hg)
  replace D := Lib.hid (D.out.call hS hg)
  clear hS hg
  obtain ⟨A1, c1, rfl⟩ := P1.out.opn
  obtain ⟨A2, c2, rfl⟩ := P2.out.opn
  have B1 : Hid (∀ k, (Value.slice A1 L1.length c1).ownBlock = some k → k < w2.heap.size) := Lib.hid P1.out.blt
  have B2 : Hid (∀ k, (Value.slice A2 L2.length c2).ownBlock = some k → k < w2.heap.size) := Lib.hid P2.out.blt
  go_upto_region 2 with fail
  have hb := below_alloc' w2 (.cells #[.int .i64 n, .slice A1 L1.length c1, .slice A2 L2.length c2] 28)
  have M := Lib.hid (Blk.new w2 28 #[.int .i64 n, .slice A1 L1.length c1, .slice A2 L2.length c2])
  have ZM : Hid (w.heap.size + 1 ≤ w2.heap.size) := Lib.hid R.out.lt
  replace P1 := Lib.hid (P1.out.below hb)
  replace P2 := Lib.hid (P2.out.below hb)
  replace R := Lib.hid (R.out.below hb R.out.lt)
  replace D := Lib.hid (D.out.below hb)
  clear hb
  obtain ⟨mb, hmb⟩ : ∃ b, w2.heap.size = b := ⟨_, rfl⟩
  generalize hW2 : World.alloc w2 _ = WM at *
  rw [hmb] at M ZM ⊢
  rw [hmb] at B1 B2
  clear hW2 hmb
  have km := M.out.cell
  have lm := M.out.lt
  go_wp2_with fail
  refine (spec_l06Is n _ _ L1 L2 _ P1.out.1 P2.out.1 (by omega) (by omega)).mono ?_
  rintro e w3 ⟨rfl, hb⟩
  replace P1 := Lib.hid (P1.out.below hb)
  replace P2 := Lib.hid (P2.out.below hb)
  replace R := Lib.hid (R.out.below hb R.out.lt)
  replace M := Lib.hid (M.out.below hb M.out.lt)
  replace D := Lib.hid (D.out.below hb)
  clear hb
  clear km lm
  cases hok : mdOk n L1 L2
  · skip
    go_upto_region 4 with fail
    have hb := (Below.refl w3.heap.size w3).drew
    replace P1 := Lib.hid (P1.out.below hb)
    replace P2 := Lib.hid (P2.out.below hb)
    replace R := Lib.hid (R.out.below hb R.out.lt)
    replace M := Lib.hid (M.out.below hb M.out.lt)
    replace D := Lib.hid (D.out.below hb)
    clear hb
    have hI : (fun X : World => X.cell? ⟨mb, 0, none⟩ = some (.int .i64 n) ∧ X.cell? ⟨mb, 1, none⟩ = some (.slice A1 L1.length c1) ∧ X.cell? ⟨mb, 2, none⟩ = some (.slice A2 L2.length c2)) (World.drew w3) := ⟨M.out.cell 0, M.out.cell 1, M.out.cell 2⟩
    refine wp_region_sched (fun X => X.cell? ⟨mb, 0, none⟩ = some (.int .i64 n) ∧ X.cell? ⟨mb, 1, none⟩ = some (.slice A1 L1.length c1) ∧ X.cell? ⟨mb, 2, none⟩ = some (.slice A2 L2.length c2)) 6 [0, 1, 2, 4] [0, 1, 2, 3, 4, 5] (by kernel_rfl) (by kernel_rfl) hI ?_
    generalize World.drew w3 = w3d at *
    repeat
      apply wpSched_q rfl rfl
      case h =>
        intro w' hI K hK
        have cc0 : w'.cell? ⟨mb, 0, none⟩ = some (.int .i64 n) := hI.1
        have cc1 : w'.cell? ⟨mb, 1, none⟩ = some (.slice A1 L1.length c1) := hI.2.1
        have cc2 : w'.cell? ⟨mb, 2, none⟩ = some (.slice A2 L2.length c2) := hI.2.2
        simp only [quietV, stillV]
        go_simp
        exact hK
      go_simp
    refine wpSched_r rfl rfl ?_ hI
    intro K hK _
    go_simp
    refine (spec_l01Next _ _ _ _ _ 10 D.out.S (by decide) (by decide)).mono ?_
    rintro e w4 ⟨k10, rfl, hk10, hS, hg, -⟩
    replace P1 := Lib.hid (D.out.passR P1.out HB.out hg)
    replace P2 := Lib.hid (D.out.passR P2.out HB.out hg)
    replace R := Lib.hid (D.out.blk R.out (Nat.le_refl _) hg)
    replace M := Lib.hid (D.out.blk M.out (Nat.le_of_succ_le ZM.out) hg)
    replace D := Lib.hid (D.out.call hS hg)
    clear hS hg
    have hkk : (k10 : Int) < 10 := hk10
    clear hk10
    clear hI
    have hI : (fun X : World => X.cell? ⟨mb, 0, none⟩ = some (.int .i64 n) ∧ X.cell? ⟨mb, 1, none⟩ = some (.slice A1 L1.length c1) ∧ X.cell? ⟨mb, 2, none⟩ = some (.slice A2 L2.length c2)) w4 := ⟨M.out.cell 0, M.out.cell 1, M.out.cell 2⟩
    refine hK _ _ hI ?_
    clear hK K
    repeat
      apply wpSched_q rfl rfl
      case h =>
        intro w' hI K hK
        have cc0 : w'.cell? ⟨mb, 0, none⟩ = some (.int .i64 n) := hI.1
        have cc1 : w'.cell? ⟨mb, 1, none⟩ = some (.slice A1 L1.length c1) := hI.2.1
        have cc2 : w'.cell? ⟨mb, 2, none⟩ = some (.slice A2 L2.length c2) := hI.2.2
        simp only [quietV, stillV]
        go_simp
        exact hK
      go_simp
    refine wpSched_r rfl rfl ?_ hI
    intro K hK _
    go_simp
    rw [show IntKind.i64.wrap (2 + (k10 : Int)) = 2 + (k10 : Int) from IntWalk.i64_in _ ⟨by omega, by omega⟩]
    refine (spec_l02Any _ _ _ _ _ (2 + (k10 : Int)) 2 true D.out.S (by omega) (by omega) (by decide) (by decide)).mono ?_
    rintro e w5 ⟨u3, L3, rfl, hL3, P3, hS, hg⟩
    replace P3 := Lib.hid (P3.ro.mono R.out.lt)
    replace P1 := Lib.hid (D.out.passR P1.out HB.out hg)
    replace P2 := Lib.hid (D.out.passR P2.out HB.out hg)
    replace R := Lib.hid (D.out.blk R.out (Nat.le_refl _) hg)
    replace M := Lib.hid (D.out.blk M.out (Nat.le_of_succ_le ZM.out) hg)
    replace D := Lib.hid (D.out.call hS hg)
    clear hS hg
    clear hI
    have hI : (fun X : World => X.cell? ⟨mb, 0, none⟩ = some (.int .i64 n) ∧ X.cell? ⟨mb, 1, none⟩ = some (.slice A1 L1.length c1) ∧ X.cell? ⟨mb, 2, none⟩ = some (.slice A2 L2.length c2)) w5 := ⟨M.out.cell 0, M.out.cell 1, M.out.cell 2⟩
    refine hK _ _ hI ?_
    clear hK K
    repeat
      apply wpSched_q rfl rfl
      case h =>
        intro w' hI K hK
        simp only [quietV, stillV]
        go_simp
        exact hK
      go_simp
    refine wpSched_nil ?_
    try simp only [List.drop_succ_cons, List.drop_zero, List.drop_nil]
    clear hI hkk
    have kr := R.out.cell
    have fr := R.out.frozen
    have lr := R.out.lt
    obtain ⟨A3, c3, rfl⟩ := P3.out.opn
    go_wp2
    refine bodyPost_ret (v := .tuple #[.agg #[.int .i64 n, .slice A1 L1.length c1, .slice A2 L2.length c2], .slice A3 L3.length c3]) (by simp [results, Tryz.results46, go_sem, kr, fr, lr]) rfl ⟨_, _, _, _, L1, L2, L3, rfl, hL1, hL2, hL3, ?_, ?_, ?_, ?_, ?_⟩
    · exact (((((P1.out.low (p := ⟨w.heap.size, 0, none⟩) (Nat.lt_succ_self _) _).low (p := ⟨w.heap.size, 1, none⟩) (Nat.lt_succ_self _) _).low (p := ⟨w.heap.size, 2, none⟩) (Nat.lt_succ_self _) _)).mono HB.out)
    · exact (((((P2.out.low (p := ⟨w.heap.size, 0, none⟩) (Nat.lt_succ_self _) _).low (p := ⟨w.heap.size, 1, none⟩) (Nat.lt_succ_self _) _).low (p := ⟨w.heap.size, 2, none⟩) (Nat.lt_succ_self _) _)).mono HB.out)
    · exact (((((P3.out.low (p := ⟨w.heap.size, 0, none⟩) (Nat.lt_succ_self _) _).low (p := ⟨w.heap.size, 1, none⟩) (Nat.lt_succ_self _) _).low (p := ⟨w.heap.size, 2, none⟩) (Nat.lt_succ_self _) _)).mono HB.out)
    · exact ((((D.out.set (p := ⟨w.heap.size, 0, none⟩) (Nat.le_refl _) _).set (p := ⟨w.heap.size, 1, none⟩) (Nat.le_refl _) _).set (p := ⟨w.heap.size, 2, none⟩) (Nat.le_refl _) _)).S
    · exact ((((D.out.set (p := ⟨w.heap.size, 0, none⟩) (Nat.le_refl _) _).set (p := ⟨w.heap.size, 1, none⟩) (Nat.le_refl _) _).set (p := ⟨w.heap.size, 2, none⟩) (Nat.le_refl _) _)).gr
  · skip
    go_wp2_with fail
    refine (spec_l01Next _ _ _ _ _ 3 D.out.S (by decide) (by decide)).mono ?_
    rintro e w6 ⟨k3, rfl, hk3, hS, hg, -⟩
    replace P1 := Lib.hid (D.out.passR P1.out HB.out hg)
    replace P2 := Lib.hid (D.out.passR P2.out HB.out hg)
    replace R := Lib.hid (D.out.blk R.out (Nat.le_refl _) hg)
    replace M := Lib.hid (D.out.blk M.out (Nat.le_of_succ_le ZM.out) hg)
    replace D := Lib.hid (D.out.call hS hg)
    clear hS hg
    cases h3 : ((k3 : Int) == 0)
    · clear hk3
      go_upto_region 4 with fail
      have hb := (Below.refl w6.heap.size w6).drew
      replace P1 := Lib.hid (P1.out.below hb)
      replace P2 := Lib.hid (P2.out.below hb)
      replace R := Lib.hid (R.out.below hb R.out.lt)
      replace M := Lib.hid (M.out.below hb M.out.lt)
      replace D := Lib.hid (D.out.below hb)
      clear hb
      have hI : (fun X : World => X.cell? ⟨mb, 0, none⟩ = some (.int .i64 n) ∧ X.cell? ⟨mb, 1, none⟩ = some (.slice A1 L1.length c1) ∧ X.cell? ⟨mb, 2, none⟩ = some (.slice A2 L2.length c2)) (World.drew w6) := ⟨M.out.cell 0, M.out.cell 1, M.out.cell 2⟩
      refine wp_region_sched (fun X => X.cell? ⟨mb, 0, none⟩ = some (.int .i64 n) ∧ X.cell? ⟨mb, 1, none⟩ = some (.slice A1 L1.length c1) ∧ X.cell? ⟨mb, 2, none⟩ = some (.slice A2 L2.length c2)) 6 [0, 1, 2, 4] [0, 1, 2, 3, 4, 5] (by kernel_rfl) (by kernel_rfl) hI ?_
      generalize World.drew w6 = w6d at *
      repeat
        apply wpSched_q rfl rfl
        case h =>
          intro w' hI K hK
          have cc0 : w'.cell? ⟨mb, 0, none⟩ = some (.int .i64 n) := hI.1
          have cc1 : w'.cell? ⟨mb, 1, none⟩ = some (.slice A1 L1.length c1) := hI.2.1
          have cc2 : w'.cell? ⟨mb, 2, none⟩ = some (.slice A2 L2.length c2) := hI.2.2
          simp only [quietV, stillV]
          go_simp
          exact hK
        go_simp
      refine wpSched_r rfl rfl ?_ hI
      intro K hK _
      go_simp
      refine (spec_l01Next _ _ _ _ _ 10 D.out.S (by decide) (by decide)).mono ?_
      rintro e w7 ⟨k10, rfl, hk10, hS, hg, -⟩
      replace P1 := Lib.hid (D.out.passR P1.out HB.out hg)
      replace P2 := Lib.hid (D.out.passR P2.out HB.out hg)
      replace R := Lib.hid (D.out.blk R.out (Nat.le_refl _) hg)
      replace M := Lib.hid (D.out.blk M.out (Nat.le_of_succ_le ZM.out) hg)
      replace D := Lib.hid (D.out.call hS hg)
      clear hS hg
      have hkk : (k10 : Int) < 10 := hk10
      clear hk10
      clear hI
      have hI : (fun X : World => X.cell? ⟨mb, 0, none⟩ = some (.int .i64 n) ∧ X.cell? ⟨mb, 1, none⟩ = some (.slice A1 L1.length c1) ∧ X.cell? ⟨mb, 2, none⟩ = some (.slice A2 L2.length c2)) w7 := ⟨M.out.cell 0, M.out.cell 1, M.out.cell 2⟩
      refine hK _ _ hI ?_
      clear hK K
      repeat
        apply wpSched_q rfl rfl
        case h =>
          intro w' hI K hK
          have cc0 : w'.cell? ⟨mb, 0, none⟩ = some (.int .i64 n) := hI.1
          have cc1 : w'.cell? ⟨mb, 1, none⟩ = some (.slice A1 L1.length c1) := hI.2.1
          have cc2 : w'.cell? ⟨mb, 2, none⟩ = some (.slice A2 L2.length c2) := hI.2.2
          simp only [quietV, stillV]
          go_simp
          exact hK
        go_simp
      refine wpSched_r rfl rfl ?_ hI
      intro K hK _
      go_simp
      rw [show IntKind.i64.wrap (2 + (k10 : Int)) = 2 + (k10 : Int) from IntWalk.i64_in _ ⟨by omega, by omega⟩]
      refine (spec_l02Any _ _ _ _ _ (2 + (k10 : Int)) 2 true D.out.S (by omega) (by omega) (by decide) (by decide)).mono ?_
      rintro e w8 ⟨u3, L3, rfl, hL3, P3, hS, hg⟩
      replace P3 := Lib.hid (P3.ro.mono R.out.lt)
      replace P1 := Lib.hid (D.out.passR P1.out HB.out hg)
      replace P2 := Lib.hid (D.out.passR P2.out HB.out hg)
      replace R := Lib.hid (D.out.blk R.out (Nat.le_refl _) hg)
      replace M := Lib.hid (D.out.blk M.out (Nat.le_of_succ_le ZM.out) hg)
      replace D := Lib.hid (D.out.call hS hg)
      clear hS hg
      clear hI
      have hI : (fun X : World => X.cell? ⟨mb, 0, none⟩ = some (.int .i64 n) ∧ X.cell? ⟨mb, 1, none⟩ = some (.slice A1 L1.length c1) ∧ X.cell? ⟨mb, 2, none⟩ = some (.slice A2 L2.length c2)) w8 := ⟨M.out.cell 0, M.out.cell 1, M.out.cell 2⟩
      refine hK _ _ hI ?_
      clear hK K
      repeat
        apply wpSched_q rfl rfl
        case h =>
          intro w' hI K hK
          simp only [quietV, stillV]
          go_simp
          exact hK
        go_simp
      refine wpSched_nil ?_
      try simp only [List.drop_succ_cons, List.drop_zero, List.drop_nil]
      clear hI hkk
      have kr := R.out.cell
      have fr := R.out.frozen
      have lr := R.out.lt
      obtain ⟨A3, c3, rfl⟩ := P3.out.opn
      go_wp2
      refine bodyPost_ret (v := .tuple #[.agg #[.int .i64 n, .slice A1 L1.length c1, .slice A2 L2.length c2], .slice A3 L3.length c3]) (by simp [results, Tryz.results46, go_sem, kr, fr, lr]) rfl ⟨_, _, _, _, L1, L2, L3, rfl, hL1, hL2, hL3, ?_, ?_, ?_, ?_, ?_⟩
      · exact (((((P1.out.low (p := ⟨w.heap.size, 0, none⟩) (Nat.lt_succ_self _) _).low (p := ⟨w.heap.size, 1, none⟩) (Nat.lt_succ_self _) _).low (p := ⟨w.heap.size, 2, none⟩) (Nat.lt_succ_self _) _)).mono HB.out)
      · exact (((((P2.out.low (p := ⟨w.heap.size, 0, none⟩) (Nat.lt_succ_self _) _).low (p := ⟨w.heap.size, 1, none⟩) (Nat.lt_succ_self _) _).low (p := ⟨w.heap.size, 2, none⟩) (Nat.lt_succ_self _) _)).mono HB.out)
      · exact (((((P3.out.low (p := ⟨w.heap.size, 0, none⟩) (Nat.lt_succ_self _) _).low (p := ⟨w.heap.size, 1, none⟩) (Nat.lt_succ_self _) _).low (p := ⟨w.heap.size, 2, none⟩) (Nat.lt_succ_self _) _)).mono HB.out)
      · exact ((((D.out.set (p := ⟨w.heap.size, 0, none⟩) (Nat.le_refl _) _).set (p := ⟨w.heap.size, 1, none⟩) (Nat.le_refl _) _).set (p := ⟨w.heap.size, 2, none⟩) (Nat.le_refl _) _)).S
      · exact ((((D.out.set (p := ⟨w.heap.size, 0, none⟩) (Nat.le_refl _) _).set (p := ⟨w.heap.size, 1, none⟩) (Nat.le_refl _) _).set (p := ⟨w.heap.size, 2, none⟩) (Nat.le_refl _) _)).gr
    · clear hk3
      obtain ⟨ns, us, rfl, -, hnn, hr, -⟩ := mdOk_iff hok
      clear hnn hok
      have hn8 : ns.length ≤ 8 := hr.1
      have HR := Lib.hid hr
      clear hr
      go_upto_region 3 with fail
      have hb := (Below.refl w6.heap.size w6).drew
      replace P1 := Lib.hid (P1.out.below hb)
      replace P2 := Lib.hid (P2.out.below hb)
      replace R := Lib.hid (R.out.below hb R.out.lt)
      replace M := Lib.hid (M.out.below hb M.out.lt)
      replace D := Lib.hid (D.out.below hb)
      clear hb
      have hI : (fun X : World => X.cell? ⟨mb, 0, none⟩ = some (.int .i64 n) ∧ X.cell? ⟨mb, 1, none⟩ = some (.slice A1 (li ns).length c1)) (World.drew w6) := ⟨M.out.cell 0, M.out.cell 1⟩
      refine wp_region_sched (fun X => X.cell? ⟨mb, 0, none⟩ = some (.int .i64 n) ∧ X.cell? ⟨mb, 1, none⟩ = some (.slice A1 (li ns).length c1)) 9 [0, 1, 2, 3, 4, 5, 7, 8] [0, 1, 2, 3, 4, 5, 6, 7, 8] (by kernel_rfl) (by kernel_rfl) hI ?_
      generalize World.drew w6 = w6d at *
      repeat
        apply wpSched_q rfl rfl
        case h =>
          intro w' hI K hK
          have cc0 : w'.cell? ⟨mb, 0, none⟩ = some (.int .i64 n) := hI.1
          have cc1 : w'.cell? ⟨mb, 1, none⟩ = some (.slice A1 (li ns).length c1) := hI.2
          simp only [quietV, stillV]
          go_simp
          exact hK
        go_simp
      refine wpSched_r rfl rfl ?_ hI
      intro K hK _
      go_simp
      refine (spec_l01Closure _ ns _ P1.out.1 HR.out).mono ?_
      rintro e w9 ⟨u4, rfl, O4, hb⟩
      have N4 : Hid (∀ k, u4.ownBlock = some k → mb < k) := Lib.hid (fun k hk => by have := (O4.block k hk).1; have := M.out.lt; omega)
      replace O4 := Lib.hid (O4.mono (R.out.lt))
      replace P1 := Lib.hid (P1.out.below hb)
      replace P2 := Lib.hid (P2.out.below hb)
      replace R := Lib.hid (R.out.below hb R.out.lt)
      replace M := Lib.hid (M.out.below hb M.out.lt)
      replace D := Lib.hid (D.out.below hb)
      clear hb
      obtain ⟨A4, c4, rfl⟩ := O4.out.opn
      have HL4 : Hid ((li (clo ns ns.length)).length ≤ 9) := Lib.hid (by rw [li_length, clo_length]; omega)
      generalize li (clo ns ns.length) = L4 at *
      clear hI
      have hI : (fun X : World => X.cell? ⟨mb, 0, none⟩ = some (.int .i64 n) ∧ X.cell? ⟨mb, 1, none⟩ = some (.slice A1 (li ns).length c1)) w9 := ⟨M.out.cell 0, M.out.cell 1⟩
      refine hK _ _ hI ?_
      clear hK K
      repeat
        apply wpSched_q rfl rfl
        case h =>
          intro w' hI K hK
          simp only [quietV, stillV]
          go_simp
          exact hK
        go_simp
      refine wpSched_nil ?_
      try simp only [List.drop_succ_cons, List.drop_zero, List.drop_nil]
      clear hI
      have km := M.out.cell
      have lm := M.out.lt
      have fm := M.out.frozen
      have D9 := Lib.hid (((D.out).set (p := ⟨mb, 0, none⟩) (Nat.le_of_succ_le ZM.out) (.int .i64 n)).set (p := ⟨mb, 1, none⟩) (Nat.le_of_succ_le ZM.out) (.slice A4 L4.length c4))
      have R9 := Lib.hid (((R.out).far (p := ⟨mb, 0, none⟩) (fun e => by have eq : w.heap.size = mb := e; have := ZM.out; omega) (.int .i64 n)).far (p := ⟨mb, 1, none⟩) (fun e => by have eq : w.heap.size = mb := e; have := ZM.out; omega) (.slice A4 L4.length c4))
      have P9 := Lib.hid (((P2.out).far (p := ⟨mb, 0, none⟩) (fun e => by have := B2.out mb e; omega) (.int .i64 n)).far (p := ⟨mb, 1, none⟩) (fun e => by have := B2.out mb e; omega) (.slice A4 L4.length c4))
      have Q9 := Lib.hid (((O4.out.ro).far (p := ⟨mb, 0, none⟩) (fun e => by have := N4.out mb e; omega) (.int .i64 n)).far (p := ⟨mb, 1, none⟩) (fun e => by have := N4.out mb e; omega) (.slice A4 L4.length c4))
      have M9 := Lib.hid ((M.out.set_ 0 (.int .i64 n)).set_ 1 (.slice A4 L4.length c4))
      go_upto_region 4 with fail
      generalize World.setCell (World.setCell w9 _ _) _ _ = W9 at *
      clear km lm fm D R M P1 P2 O4
      have P1 := Q9
      have P2 := P9
      have D := D9
      have M := M9
      have R := R9
      clear Q9 D9 M9 R9 P9
      go_upto_region 4 with fail
      have hb := (Below.refl W9.heap.size W9).drew
      replace P1 := Lib.hid (P1.out.below hb)
      replace P2 := Lib.hid (P2.out.below hb)
      replace R := Lib.hid (R.out.below hb R.out.lt)
      replace M := Lib.hid (M.out.below hb M.out.lt)
      replace D := Lib.hid (D.out.below hb)
      clear hb
      have hI : (fun X : World => X.cell? ⟨mb, 0, none⟩ = some (.int .i64 n) ∧ X.cell? ⟨mb, 1, none⟩ = some (.slice A4 L4.length c4) ∧ X.cell? ⟨mb, 2, none⟩ = some (.slice A2 L2.length c2)) (World.drew W9) := ⟨M.out.cell 0, M.out.cell 1, M.out.cell 2⟩
      refine wp_region_sched (fun X => X.cell? ⟨mb, 0, none⟩ = some (.int .i64 n) ∧ X.cell? ⟨mb, 1, none⟩ = some (.slice A4 L4.length c4) ∧ X.cell? ⟨mb, 2, none⟩ = some (.slice A2 L2.length c2)) 6 [0, 1, 2, 4] [0, 1, 2, 3, 4, 5] (by kernel_rfl) (by kernel_rfl) hI ?_
      generalize World.drew W9 = W9d at *
      repeat
        apply wpSched_q rfl rfl
        case h =>
          intro w' hI K hK
          have cc0 : w'.cell? ⟨mb, 0, none⟩ = some (.int .i64 n) := hI.1
          have cc1 : w'.cell? ⟨mb, 1, none⟩ = some (.slice A4 L4.length c4) := hI.2.1
          have cc2 : w'.cell? ⟨mb, 2, none⟩ = some (.slice A2 L2.length c2) := hI.2.2
          simp only [quietV, stillV]
          go_simp
          exact hK
        go_simp
      refine wpSched_r rfl rfl ?_ hI
      intro K hK _
      go_simp
      refine (spec_l01Next _ _ _ _ _ 10 D.out.S (by decide) (by decide)).mono ?_
      rintro e w10 ⟨k10, rfl, hk10, hS, hg, -⟩
      replace P1 := Lib.hid (D.out.passR P1.out HB.out hg)
      replace P2 := Lib.hid (D.out.passR P2.out HB.out hg)
      replace R := Lib.hid (D.out.blk R.out (Nat.le_refl _) hg)
      replace M := Lib.hid (D.out.blk M.out (Nat.le_of_succ_le ZM.out) hg)
      replace D := Lib.hid (D.out.call hS hg)
      clear hS hg
      have hkk : (k10 : Int) < 10 := hk10
      clear hk10
      clear hI
      have hI : (fun X : World => X.cell? ⟨mb, 0, none⟩ = some (.int .i64 n) ∧ X.cell? ⟨mb, 1, none⟩ = some (.slice A4 L4.length c4) ∧ X.cell? ⟨mb, 2, none⟩ = some (.slice A2 L2.length c2)) w10 := ⟨M.out.cell 0, M.out.cell 1, M.out.cell 2⟩
      refine hK _ _ hI ?_
      clear hK K
      repeat
        apply wpSched_q rfl rfl
        case h =>
          intro w' hI K hK
          have cc0 : w'.cell? ⟨mb, 0, none⟩ = some (.int .i64 n) := hI.1
          have cc1 : w'.cell? ⟨mb, 1, none⟩ = some (.slice A4 L4.length c4) := hI.2.1
          have cc2 : w'.cell? ⟨mb, 2, none⟩ = some (.slice A2 L2.length c2) := hI.2.2
          simp only [quietV, stillV]
          go_simp
          exact hK
        go_simp
      refine wpSched_r rfl rfl ?_ hI
      intro K hK _
      go_simp
      rw [show IntKind.i64.wrap (2 + (k10 : Int)) = 2 + (k10 : Int) from IntWalk.i64_in _ ⟨by omega, by omega⟩]
      refine (spec_l02Any _ _ _ _ _ (2 + (k10 : Int)) 2 true D.out.S (by omega) (by omega) (by decide) (by decide)).mono ?_
      rintro e w11 ⟨u3, L3, rfl, hL3, P3, hS, hg⟩
      replace P3 := Lib.hid (P3.ro.mono R.out.lt)
      replace P1 := Lib.hid (D.out.passR P1.out HB.out hg)
      replace P2 := Lib.hid (D.out.passR P2.out HB.out hg)
      replace R := Lib.hid (D.out.blk R.out (Nat.le_refl _) hg)
      replace M := Lib.hid (D.out.blk M.out (Nat.le_of_succ_le ZM.out) hg)
      replace D := Lib.hid (D.out.call hS hg)
      clear hS hg
      clear hI
      have hI : (fun X : World => X.cell? ⟨mb, 0, none⟩ = some (.int .i64 n) ∧ X.cell? ⟨mb, 1, none⟩ = some (.slice A4 L4.length c4) ∧ X.cell? ⟨mb, 2, none⟩ = some (.slice A2 L2.length c2)) w11 := ⟨M.out.cell 0, M.out.cell 1, M.out.cell 2⟩
      refine hK _ _ hI ?_
      clear hK K
      repeat
        apply wpSched_q rfl rfl
        case h =>
          intro w' hI K hK
          simp only [quietV, stillV]
          go_simp
          exact hK
        go_simp
      refine wpSched_nil ?_
      try simp only [List.drop_succ_cons, List.drop_zero, List.drop_nil]
      clear hI hkk
      have kr := R.out.cell
      have fr := R.out.frozen
      have lr := R.out.lt
      obtain ⟨A3, c3, rfl⟩ := P3.out.opn
      go_wp2
      refine bodyPost_ret (v := .tuple #[.agg #[.int .i64 n, .slice A4 L4.length c4, .slice A2 L2.length c2], .slice A3 L3.length c3]) (by simp [results, Tryz.results46, go_sem, kr, fr, lr]) rfl ⟨_, _, _, _, L4, L2, L3, rfl, HL4.out, hL2, hL3, ?_, ?_, ?_, ?_, ?_⟩
      · exact (((((P1.out.low (p := ⟨w.heap.size, 0, none⟩) (Nat.lt_succ_self _) _).low (p := ⟨w.heap.size, 1, none⟩) (Nat.lt_succ_self _) _).low (p := ⟨w.heap.size, 2, none⟩) (Nat.lt_succ_self _) _)).mono HB.out)
      · exact (((((P2.out.low (p := ⟨w.heap.size, 0, none⟩) (Nat.lt_succ_self _) _).low (p := ⟨w.heap.size, 1, none⟩) (Nat.lt_succ_self _) _).low (p := ⟨w.heap.size, 2, none⟩) (Nat.lt_succ_self _) _)).mono HB.out)
      · exact (((((P3.out.low (p := ⟨w.heap.size, 0, none⟩) (Nat.lt_succ_self _) _).low (p := ⟨w.heap.size, 1, none⟩) (Nat.lt_succ_self _) _).low (p := ⟨w.heap.size, 2, none⟩) (Nat.lt_succ_self _) _)).mono HB.out)
      · exact ((((D.out.set (p := ⟨w.heap.size, 0, none⟩) (Nat.le_refl _) _).set (p := ⟨w.heap.size, 1, none⟩) (Nat.le_refl _) _).set (p := ⟨w.heap.size, 2, none⟩) (Nat.le_refl _) _)).S
      · exact ((((D.out.set (p := ⟨w.heap.size, 0, none⟩) (Nat.le_refl _) _).set (p := ⟨w.heap.size, 1, none⟩) (Nat.le_refl _) _).set (p := ⟨w.heap.size, 2, none⟩) (Nat.le_refl _) _)).gr
end Go.Proofs.YtboldkahppdmbaaGreatDoor

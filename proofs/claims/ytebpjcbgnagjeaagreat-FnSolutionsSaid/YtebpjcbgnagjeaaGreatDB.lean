/- Joined of several texts: Dt, Du, Dv, Dw. -/
import Derived.Test.YtebpjcbgnagjeaaGreatDA
import Derived.Test.YtebpjcbgnagjeaaGreatLM2
import Derived.Test.YtebpjcbgnagjeaaGreat05e
namespace Go.Proofs.YtebpjcbgnagjeaaGreat
open Go.RowKit
set_option linter.unusedVariables false
set_option linter.unusedSimpArgs false
/- The reference's drawing functions of frames and models, by the shape of what they draw (written by program, gendr2.py). -/
set_option maxRecDepth 100000 in
set_option maxHeartbeats 4000000 in
theorem spec_l05Draw (w0 : World) (v : Value) (xs : List (Fin 256)) (w : World) (g : Nat) (worlds : Nat) (S : Src 91 w0 v xs w g) (h8 : worlds ≤ 8) :
    Calls Tryz.prog 34 #[.pointer (some ⟨g, 0, none⟩), .int .i64 (worlds : Int)] w fun e w' => ∃ (n : Int) (u : Value) (L : List Int), e = .returned (.agg #[.int .i64 n, u]) ∧ n ≤ 1000 ∧ L.length ≤ 9 ∧ Ow cI 2 w.heap.size w' u L ∧ Src 91 w0 v xs w' g ∧ w.grownBy w' (some g) := by
  have D := Lib.hid (Dg.start S)
  clear S
  go_enter Tryz.func34, Tryz.ntmps34
  have R0 := Blk.new w 26 #[.int .i64 0, .slice none 0 0]
  have HB : Hid (w.heap.size ≤ w.heap.size + 1) := Lib.hid (Nat.le_succ _)
  go_upto_region 1 with fail
  have hb := below_alloc' w (.cells #[.int .i64 0, .slice none 0 0] 26)
  have R := Lib.hid R0
  clear R0
  replace D := Lib.hid (D.out.below hb)
  clear hb
  generalize World.alloc w _ = W at *
  go_wp2_with fail
  refine (spec_l05Some _ _ _ _ _ worlds D.out.S h8).mono ?_
  rintro e w1 ⟨u, ns, rfl, hn, hr, O, hS, hg⟩
  replace O := Lib.hid (O.mono (R.out.lt))
  replace R := Lib.hid (D.out.blk R.out (Nat.le_refl _) hg)
  replace D := Lib.hid (D.out.call hS hg)
  clear hS hg
  have hn8 : ns.length ≤ 8 := by omega
  obtain ⟨A, c, rfl⟩ := O.out.opn
  rw [li_length] at O ⊢
  have NB := Lib.hid (O.out.block)
  go_upto_region 2 with fail
  have hb := below_alloc' w1 (.cells #[.int .i64 (ns.length : Int), .slice A ns.length c] 26)
  have F := Lib.hid (Blk.new w1 26 #[.int .i64 (ns.length : Int), .slice A ns.length c])
  have ZF : Hid (w.heap.size + 1 ≤ w1.heap.size) := Lib.hid R.out.lt
  replace O := Lib.hid (O.out.below hb)
  replace R := Lib.hid (R.out.below hb R.out.lt)
  replace D := Lib.hid (D.out.below hb)
  clear hb
  obtain ⟨fb, hfb⟩ : ∃ b, w1.heap.size = b := ⟨_, rfl⟩
  generalize hW2 : World.alloc w1 _ = WF at *
  rw [hfb] at F ZF ⊢
  have NF : Hid (∀ k, (Value.slice A ns.length c).ownBlock = some k → k < fb) := Lib.hid (fun k hk => by have := (NB.out k hk).2; omega)
  clear NB
  clear hW2 hfb
  go_wp2_with fail
  refine (spec_l01Next _ _ _ _ _ 40 D.out.S (by decide) (by decide)).mono ?_
  rintro e w2 ⟨k, rfl, hk, hS, hg, -⟩
  replace O := Lib.hid (D.out.passB O.out HB.out hg)
  replace R := Lib.hid (D.out.blk R.out (Nat.le_refl _) hg)
  replace F := Lib.hid (D.out.blk F.out (Nat.le_of_succ_le ZF.out) hg)
  replace D := Lib.hid (D.out.call hS hg)
  clear hS hg
  cases t0 : ((k : Int) == 0)
  · cases t1 : ((k : Int) == 1)
    · cases t2 : ((k : Int) == 2)
      · clear hk
        have kr := R.out.cell
        have fr := R.out.frozen
        have lr := R.out.lt
        have kf := F.out.cell
        have lf := F.out.lt
        go_wp2
        refine bodyPost_ret (v := .agg #[.int .i64 (ns.length : Int), .slice A ns.length c]) (by simp [results, Tryz.results34, go_sem, kr, fr, lr]) rfl ⟨_, _, (li ns), rfl, by omega, by rw [li_length]; omega, ?_, ?_, ?_⟩
        · exact ((O.out.setBelow (p := ⟨w.heap.size, 0, none⟩) (Nat.lt_succ_self _) _).setBelow (p := ⟨w.heap.size, 1, none⟩) (Nat.lt_succ_self _) _).mono HB.out
        · exact ((D.out.set (p := ⟨w.heap.size, 0, none⟩) (Nat.le_refl _) _).set (p := ⟨w.heap.size, 1, none⟩) (Nat.le_refl _) _).S
        · exact ((D.out.set (p := ⟨w.heap.size, 0, none⟩) (Nat.le_refl _) _).set (p := ⟨w.heap.size, 1, none⟩) (Nat.le_refl _) _).gr
      · clear hk
        by_cases hpos : 0 < ns.length
        · skip
          obtain ⟨F2, hF2⟩ : ∃ F2, F2 = 2 ^ ns.length - 1 := ⟨_, rfl⟩
          have hp2 := two_pow_256 hn8
          have hF256 : F2 < 256 := by have := Nat.pow_pos (n := ns.length) (show 0 < 2 by decide); omega
          have HF2 := Lib.hid hF2
          clear hF2 hp2
          have kf := F.out.cell
          go_upto_region 9 with fail
          have hb := (Below.refl w2.heap.size w2).drew
          replace O := Lib.hid (O.out.below hb)
          replace R := Lib.hid (R.out.below hb R.out.lt)
          replace F := Lib.hid (F.out.below hb F.out.lt)
          replace D := Lib.hid (D.out.below hb)
          clear hb
          have hI : (fun X : World => X.cell? ⟨fb, 0, none⟩ = some (.int .i64 (ns.length : Int)) ∧ X.cell? ⟨fb, 1, none⟩ = some (.slice A ns.length c)) (World.drew w2) := ⟨F.out.cell 0, F.out.cell 1⟩
          refine wp_region_sched (fun X => X.cell? ⟨fb, 0, none⟩ = some (.int .i64 (ns.length : Int)) ∧ X.cell? ⟨fb, 1, none⟩ = some (.slice A ns.length c)) 14 [0, 1, 2, 3, 4, 6, 7, 8, 10, 13] [0, 1, 2, 3, 4, 6, 7, 8, 5, 9, 10, 11, 12, 13] (by kernel_rfl) (by kernel_rfl) hI ?_
          generalize World.drew w2 = w2d at *
          clear kf
          repeat
            apply wpSched_q rfl rfl
            case h =>
              intro w' hI K hK
              have cc0 : w'.cell? ⟨fb, 0, none⟩ = some (.int .i64 (ns.length : Int)) := hI.1
              have cc1 : w'.cell? ⟨fb, 1, none⟩ = some (.slice A ns.length c) := hI.2
              simp only [quietV, stillV]
              go_simp
              exact hK
            go_simp
          refine wpSched_r rfl rfl ?_ hI
          intro K hK _
          go_simp
          refine (spec_l01Next _ _ _ _ _ (ns.length : Int) D.out.S (by omega) (by omega)).mono ?_
          rintro e w3 ⟨k1, rfl, hk1, hS, hg, -⟩
          replace O := Lib.hid (D.out.passB O.out HB.out hg)
          replace R := Lib.hid (D.out.blk R.out (Nat.le_refl _) hg)
          replace F := Lib.hid (D.out.blk F.out (Nat.le_of_succ_le ZF.out) hg)
          replace D := Lib.hid (D.out.call hS hg)
          clear hS hg
          have hk1' : k1 < ns.length := by omega
          clear hk1
          clear hI
          have hI : (fun X : World => X.cell? ⟨fb, 0, none⟩ = some (.int .i64 (ns.length : Int)) ∧ X.cell? ⟨fb, 1, none⟩ = some (.slice A ns.length c)) w3 := ⟨F.out.cell 0, F.out.cell 1⟩
          refine hK _ _ hI ?_
          clear hK K
          repeat
            apply wpSched_q rfl rfl
            case h =>
              intro w' hI K hK
              have cc0 : w'.cell? ⟨fb, 0, none⟩ = some (.int .i64 (ns.length : Int)) := hI.1
              have cc1 : w'.cell? ⟨fb, 1, none⟩ = some (.slice A ns.length c) := hI.2
              simp only [quietV, stillV]
              go_simp
              exact hK
            go_simp
          refine wpSched_r rfl rfl ?_ hI
          intro K hK _
          go_simp
          refine (spec_l01Full' ns.length F2 HF2.out _ (by omega)).mono ?_
          rintro e w8 ⟨rfl, rfl⟩
          clear hI
          have hI : (fun X : World => X.cell? ⟨fb, 0, none⟩ = some (.int .i64 (ns.length : Int)) ∧ X.cell? ⟨fb, 1, none⟩ = some (.slice A ns.length c)) w3 := ⟨F.out.cell 0, F.out.cell 1⟩
          refine hK _ _ hI ?_
          clear hK K
          repeat
            apply wpSched_q rfl rfl
            case h =>
              intro w' hI K hK
              have cc0 : w'.cell? ⟨fb, 0, none⟩ = some (.int .i64 (ns.length : Int)) := hI.1
              have cc1 : w'.cell? ⟨fb, 1, none⟩ = some (.slice A ns.length c) := hI.2
              simp only [quietV, stillV]
              go_simp
              exact hK
            go_simp
          refine wpSched_r rfl rfl ?_ hI
          intro K hK _
          go_simp
          rw [show IntKind.i64.wrap ((F2 : Int) + 1) = (F2 : Int) + 1 from IntWalk.i64_in _ ⟨by omega, by omega⟩]
          have hb := below_alloc' w3 (.cells #[.int .i64 (-1), .int .i64 ((F2 : Int) + 1)] 2)
          have OL : Hid (Ow cI 2 (w.heap.size + 1) (World.alloc w3 (.cells #[.int .i64 (-1), .int .i64 ((F2 : Int) + 1)] 2)) (.slice (some ⟨w3.heap.size, 0, none⟩) 2 2) [(-1), ((F2 : Int) + 1)]) := Lib.hid (Ow.lit [(-1), ((F2 : Int) + 1)] rfl rfl R.out.lt)
          replace O := Lib.hid (O.out.below hb)
          replace R := Lib.hid (R.out.below hb R.out.lt)
          replace F := Lib.hid (F.out.below hb F.out.lt)
          replace D := Lib.hid (D.out.below hb)
          clear hb
          generalize World.alloc w3 _ = w3l at *
          clear hI
          have hI : (fun X : World => X.cell? ⟨fb, 0, none⟩ = some (.int .i64 (ns.length : Int)) ∧ X.cell? ⟨fb, 1, none⟩ = some (.slice A ns.length c)) w3l := ⟨F.out.cell 0, F.out.cell 1⟩
          refine hK _ _ hI ?_
          clear hK K
          repeat
            apply wpSched_q rfl rfl
            case h =>
              intro w' hI K hK
              have cc0 : w'.cell? ⟨fb, 0, none⟩ = some (.int .i64 (ns.length : Int)) := hI.1
              have cc1 : w'.cell? ⟨fb, 1, none⟩ = some (.slice A ns.length c) := hI.2
              simp only [quietV, stillV]
              go_simp
              exact hK
            go_simp
          refine wpSched_r rfl rfl ?_ hI
          intro K hK _
          go_simp
          refine (spec_l01Pick _ _ _ _ _ _ [(-1), ((F2 : Int) + 1)] D.out.S OL.out.sl (by have := OL.out; have hb2 := OL.out.block; exact .inr (fun e => by have := hb2 _ e; have := D.out.lt; omega)) (by simp) (by simp)).mono ?_
          rintro e w4 ⟨y, rfl, -, hS, hg, -⟩
          clear OL
          replace O := Lib.hid (D.out.passB O.out HB.out hg)
          replace R := Lib.hid (D.out.blk R.out (Nat.le_refl _) hg)
          replace F := Lib.hid (D.out.blk F.out (Nat.le_of_succ_le ZF.out) hg)
          replace D := Lib.hid (D.out.call hS hg)
          clear hS hg
          clear hI
          have hI : (fun X : World => X.cell? ⟨fb, 0, none⟩ = some (.int .i64 (ns.length : Int)) ∧ X.cell? ⟨fb, 1, none⟩ = some (.slice A ns.length c)) w4 := ⟨F.out.cell 0, F.out.cell 1⟩
          refine hK _ _ hI ?_
          clear hK K
          obtain ⟨ga, cc, hv, gB, gl, -⟩ := O.out.form (by rw [li_length]; exact hpos)
          injection hv with hA hN hC
          subst hA
          subst hC
          clear hN
          repeat
            apply wpSched_q rfl rfl
            case h =>
              intro w' hI K hK
              simp only [quietV, stillV]
              go_simp
              exact hK
            go_simp
          refine wpSched_nil ?_
          try simp only [List.drop_succ_cons, List.drop_zero, List.drop_nil]
          have hmt : k1 < (li ns).length := by rw [li_length]; exact hk1'
          obtain ⟨c2, f2, -, -⟩ := O.out.at1 rfl hmt rfl
          have O9 := Lib.hid (O.out.set1 (j := k1) (x := y) (u := .int .i64 y) rfl rfl hmt)
          have L9 : Hid (((li ns).set k1 y).length ≤ 9) := Lib.hid (by rw [List.length_set, li_length]; omega)
          have D9 := Lib.hid (D.out.set (p := ⟨ga, k1, none⟩) (show w.heap.size ≤ ga by omega) (.int .i64 y))
          have gne : ga < fb := NF.out ga rfl
          have F9 := Lib.hid (F.out.far (p := ⟨ga, k1, none⟩) (fun e => by have eq : fb = ga := e; omega) (.int .i64 y))
          have R9 := Lib.hid (R.out.far (p := ⟨ga, k1, none⟩) (fun e => by have eq : w.heap.size = ga := e; omega) (.int .i64 y))
          clear hI O D F R
          have O := O9
          have D := D9
          have F := F9
          have R := R9
          clear O9 D9 F9 R9
          have kf := F.out.cell
          have lf := F.out.lt
          go_upto_region 10 with fail
          generalize World.setCell w4 _ _ = W9 at *
          clear kf lf c2 f2
          have kr := R.out.cell
          have fr := R.out.frozen
          have lr := R.out.lt
          have kf := F.out.cell
          have lf := F.out.lt
          go_wp2
          refine bodyPost_ret (v := .agg #[.int .i64 (ns.length : Int), .slice (some ⟨ga, 0, none⟩) ns.length c]) (by simp [results, Tryz.results34, go_sem, kr, fr, lr]) rfl ⟨_, _, ((li ns).set k1 y), rfl, by omega, L9.out, ?_, ?_, ?_⟩
          · exact ((O.out.setBelow (p := ⟨w.heap.size, 0, none⟩) (Nat.lt_succ_self _) _).setBelow (p := ⟨w.heap.size, 1, none⟩) (Nat.lt_succ_self _) _).mono HB.out
          · exact ((D.out.set (p := ⟨w.heap.size, 0, none⟩) (Nat.le_refl _) _).set (p := ⟨w.heap.size, 1, none⟩) (Nat.le_refl _) _).S
          · exact ((D.out.set (p := ⟨w.heap.size, 0, none⟩) (Nat.le_refl _) _).set (p := ⟨w.heap.size, 1, none⟩) (Nat.le_refl _) _).gr
        · have hz : ns.length = 0 := by omega
          have kf := F.out.cell
          go_upto_region 10 with fail
          clear kf hz
          have kr := R.out.cell
          have fr := R.out.frozen
          have lr := R.out.lt
          have kf := F.out.cell
          have lf := F.out.lt
          go_wp2
          refine bodyPost_ret (v := .agg #[.int .i64 (ns.length : Int), .slice A ns.length c]) (by simp [results, Tryz.results34, go_sem, kr, fr, lr]) rfl ⟨_, _, (li ns), rfl, by omega, by rw [li_length]; omega, ?_, ?_, ?_⟩
          · exact ((O.out.setBelow (p := ⟨w.heap.size, 0, none⟩) (Nat.lt_succ_self _) _).setBelow (p := ⟨w.heap.size, 1, none⟩) (Nat.lt_succ_self _) _).mono HB.out
          · exact ((D.out.set (p := ⟨w.heap.size, 0, none⟩) (Nat.le_refl _) _).set (p := ⟨w.heap.size, 1, none⟩) (Nat.le_refl _) _).S
          · exact ((D.out.set (p := ⟨w.heap.size, 0, none⟩) (Nat.le_refl _) _).set (p := ⟨w.heap.size, 1, none⟩) (Nat.le_refl _) _).gr
    · clear hk
      have kf := F.out.cell
      have lf := F.out.lt
      go_wp2_with fail
      refine (spec_l01Own _ (li ns) _ O.out.sl (by rw [li_length]; omega)).mono ?_
      rintro e w5 ⟨u2, rfl, O2, hb⟩
      have N2 : Hid (∀ k, u2.ownBlock = some k → fb < k) := Lib.hid (fun k hk => by have := (O2.block k hk).1; have := F.out.lt; omega)
      replace O2 := Lib.hid (O2.mono (R.out.lt))
      replace O := Lib.hid (O.out.below hb)
      replace R := Lib.hid (R.out.below hb R.out.lt)
      replace F := Lib.hid (F.out.below hb F.out.lt)
      replace D := Lib.hid (D.out.below hb)
      clear hb
      clear kf lf
      obtain ⟨A2, c2, rfl⟩ := O2.out.opn
      have bsz : w.heap.size + 1 ≤ _ := R.out.lt
      go_wp2_with (at_builtin; refine stopHere ?_)
      refine goHere ?_
      refine ap_one (K := cI) _ ty_int64 rfl _ _ rfl (B := w.heap.size + 1) (v := .slice A2 (li ns).length c2) (xs := li ns) rfl O2.out (0 : Int) rfl rfl (by rw [li_length]; omega) bsz ?_
      intro v1 w9 ho1 hg1 hb1 hat1
      have ne1 : v1.ownBlock ≠ some fb := by
        intro e
        have hlt := F.out.lt
        rcases hat1 with h1 | h1
        · have := N2.out fb (h1 ▸ e); omega
        · rw [h1] at e; injection e with e; omega
      have D9 := Lib.hid ((D.out.grown (grown_alloc _ hg1) (fun q e => by have := (O2.out.block q e).1; omega)).set (p := ⟨fb, 1, none⟩) (Nat.le_of_succ_le ZF.out) v1)
      have F8 := F.out.grown (grown_alloc _ hg1) (fun e => by have := N2.out fb e.symm; omega)
      have R9 := Lib.hid ((R.out.grown (grown_alloc _ hg1) (fun e => by have := (O2.out.block _ e.symm).1; omega)).far (p := ⟨fb, 1, none⟩) (fun e => by have eq : w.heap.size = fb := e; have := ZF.out; omega) v1)
      have O9 := Lib.hid (ho1.far (p := ⟨fb, 1, none⟩) ne1 v1)
      have F9 := Lib.hid (F8.set_ 1 v1)
      obtain ⟨A9, c9, hv9⟩ := ho1.opn
      rw [List.length_append, List.length_singleton, li_length] at hv9
      subst hv9
      clear ho1 hg1 hb1 hat1 D F R O ne1
      have D := D9
      have F := F9
      have R := R9
      have O := O9
      clear D9 F9 R9 O9
      have L9 : Hid ((li ns ++ [0]).length ≤ 9) := Lib.hid (by rw [List.length_append, li_length, List.length_singleton]; omega)
      have kf := F8.cell
      have lf := F8.lt
      have ff := F8.frozen
      go_upto_region 10 with fail
      generalize World.setCell w9 _ _ = W9 at *
      clear kf lf ff F8
      have kr := R.out.cell
      have fr := R.out.frozen
      have lr := R.out.lt
      have kf := F.out.cell
      have lf := F.out.lt
      go_wp2
      refine bodyPost_ret (v := .agg #[.int .i64 (ns.length : Int), .slice A9 (ns.length + 1) c9]) (by simp [results, Tryz.results34, go_sem, kr, fr, lr]) rfl ⟨_, _, (li ns ++ [0]), rfl, by omega, L9.out, ?_, ?_, ?_⟩
      · exact ((O.out.setBelow (p := ⟨w.heap.size, 0, none⟩) (Nat.lt_succ_self _) _).setBelow (p := ⟨w.heap.size, 1, none⟩) (Nat.lt_succ_self _) _).mono HB.out
      · exact ((D.out.set (p := ⟨w.heap.size, 0, none⟩) (Nat.le_refl _) _).set (p := ⟨w.heap.size, 1, none⟩) (Nat.le_refl _) _).S
      · exact ((D.out.set (p := ⟨w.heap.size, 0, none⟩) (Nat.le_refl _) _).set (p := ⟨w.heap.size, 1, none⟩) (Nat.le_refl _) _).gr
  · clear hk
    have kf := F.out.cell
    have lf := F.out.lt
    go_wp2_with fail
    clear kf lf
    have hb := below_alloc' w2 (.cells #[.int .i64 (-1), .int .i64 9, .int .i64 ((ns.length : Int) + 1)] 2)
    have OL : Hid (Ow cI 2 (w.heap.size + 1) (World.alloc w2 (.cells #[.int .i64 (-1), .int .i64 9, .int .i64 ((ns.length : Int) + 1)] 2)) (.slice (some ⟨w2.heap.size, 0, none⟩) 3 3) [(-1), 9, ((ns.length : Int) + 1)]) := Lib.hid (Ow.lit [(-1), 9, ((ns.length : Int) + 1)] rfl rfl R.out.lt)
    replace O := Lib.hid (O.out.below hb)
    replace R := Lib.hid (R.out.below hb R.out.lt)
    replace F := Lib.hid (F.out.below hb F.out.lt)
    replace D := Lib.hid (D.out.below hb)
    clear hb
    generalize World.alloc w2 _ = w2l at *
    refine (spec_l01Pick _ _ _ _ _ _ [(-1), 9, ((ns.length : Int) + 1)] D.out.S OL.out.sl (by have := OL.out; have hb2 := OL.out.block; exact .inr (fun e => by have := hb2 _ e; have := D.out.lt; omega)) (by simp) (by simp)).mono ?_
    rintro e w6 ⟨y, rfl, hy, hS, hg, -⟩
    clear OL
    replace O := Lib.hid (D.out.passB O.out HB.out hg)
    replace R := Lib.hid (D.out.blk R.out (Nat.le_refl _) hg)
    replace F := Lib.hid (D.out.blk F.out (Nat.le_of_succ_le ZF.out) hg)
    replace D := Lib.hid (D.out.call hS hg)
    clear hS hg
    have hy9 : y ≤ 1000 := by
      simp only [List.mem_cons, List.not_mem_nil, or_false] at hy
      omega
    clear hy
    have kf := F.out.cell
    have lf := F.out.lt
    have ff := F.out.frozen
    have D9 := Lib.hid (D.out.set (p := ⟨fb, 0, none⟩) (Nat.le_of_succ_le ZF.out) (.int .i64 y))
    have R9 := Lib.hid (R.out.far (p := ⟨fb, 0, none⟩) (fun e => by have eq : w.heap.size = fb := e; have := ZF.out; omega) (.int .i64 y))
    have O9 := Lib.hid (O.out.far (p := ⟨fb, 0, none⟩) (fun e => by have := NF.out fb e; omega) (.int .i64 y))
    have F9 := Lib.hid (F.out.set_ 0 (.int .i64 y))
    go_upto_region 10 with fail
    generalize World.setCell w6 _ _ = W9 at *
    clear kf lf ff D F R O
    have D := D9
    have F := F9
    have R := R9
    have O := O9
    clear D9 F9 R9 O9
    have kr := R.out.cell
    have fr := R.out.frozen
    have lr := R.out.lt
    have kf := F.out.cell
    have lf := F.out.lt
    go_wp2
    refine bodyPost_ret (v := .agg #[.int .i64 y, .slice A ns.length c]) (by simp [results, Tryz.results34, go_sem, kr, fr, lr]) rfl ⟨_, _, (li ns), rfl, by omega, by rw [li_length]; omega, ?_, ?_, ?_⟩
    · exact ((O.out.setBelow (p := ⟨w.heap.size, 0, none⟩) (Nat.lt_succ_self _) _).setBelow (p := ⟨w.heap.size, 1, none⟩) (Nat.lt_succ_self _) _).mono HB.out
    · exact ((D.out.set (p := ⟨w.heap.size, 0, none⟩) (Nat.le_refl _) _).set (p := ⟨w.heap.size, 1, none⟩) (Nat.le_refl _) _).S
    · exact ((D.out.set (p := ⟨w.heap.size, 0, none⟩) (Nat.le_refl _) _).set (p := ⟨w.heap.size, 1, none⟩) (Nat.le_refl _) _).gr
/- The reference's drawing functions of frames and models, by the shape of what they draw (written by program, gendr2.py). -/
/- The reference's drawing functions of frames and models, by the shape of what they draw (written by program, gendr2.py). -/
/- The reference's drawing functions of frames and models, by the shape of what they draw (written by program, gendr2.py). -/
section
variable {w0 : World} {v : Value} {xs : List (Fin 256)} {g : Nat} {w X Y : World} {α : Type} {K : Cod α} {u : Value} {L : List α} {B : Nat}
theorem Dg.passR (d : Dg w0 v xs g w X) (h : Ro K B X u L) (hB : w.heap.size ≤ B) (hg : X.grownBy Y (some g)) : Ro K B Y u L :=
  ⟨h.1.grown hg (by
    have := d.lt
    cases hv : u.ownBlock with
    | none => exact .inl rfl
    | some k => exact .inr (fun e => by injection e; have := (h.2 k hv).1; omega)), fun k hk => ⟨(h.2 k hk).1, Nat.lt_of_lt_of_le (h.2 k hk).2 hg.size⟩⟩
theorem Ro.far (h : Ro K B X u L) {p : Addr} (hp : u.ownBlock ≠ some p.block) (x : Value) : Ro K B (X.setCell p x) u L :=
  ⟨h.1.grown (row := some p.block) ⟨rfl, rfl, rfl, by simp [World.setCell], fun i _ hne => Below.heap_setCell _ _ _ _ (fun e => hne (by rw [e]))⟩ (.inr hp), fun k hk => ⟨(h.2 k hk).1, by have := (h.2 k hk).2; simpa [World.setCell] using this⟩⟩
theorem Ro.low (h : Ro K B X u L) {p : Addr} (hp : p.block < B) (x : Value) : Ro K B (X.setCell p x) u L := h.far (fun e => by have := (h.2 _ e).1; omega) x
end
end Go.Proofs.YtebpjcbgnagjeaaGreat

/- The reference's drawing for SolveOnFrame, by shape (written by program, gendr6.py). -/
import Derived.Test.YtebpjcbgnagjeaaGreatDg
import Derived.Test.YtebpjcbgnagjeaaGreatDB
namespace Go.Proofs.YtebpjcbgnagjeaaGreat
open Go.RowKit
set_option linter.unusedVariables false
set_option linter.unusedSimpArgs false
theorem spec_one8 (x : Int) (w : World) (h0 : 0 ≤ x) (h1 : x ≤ 8) :
    Calls Tryz.prog 40 #[.int .i64 x] w fun e w' => ∃ y : Nat, e = .returned (.int .i64 (y : Int)) ∧ 1 ≤ y ∧ y ≤ 256 ∧ w = w' := by
  refine (spec_l01One x w h0 (by omega)).mono ?_
  rintro e w1 ⟨rfl, rfl⟩
  exact ⟨2 ^ x.toNat, by rw [← cast_two_pow], Nat.pow_pos (by decide), two_pow_256 (by omega), rfl⟩
theorem apart {u v : Value} {vb : Nat} (h : ∀ k, u.ownBlock = some k → k < vb) (h' : ∀ k, v.ownBlock = some k → vb ≤ k) : u.ownBlock = none ∨ u.ownBlock ≠ v.ownBlock := by
  cases hu : u.ownBlock with
  | none => exact .inl rfl
  | some k => exact .inr (fun e => by have h1 := h k hu; have h2 := h' k e.symm; omega)
section
variable {w0 : World} {v : Value} {xs : List (Fin 256)} {g : Nat} {w X Y : World} {α : Type} {K : Cod α} {e : TypeId} {u : Value} {L : List α} {B : Nat}
theorem passV (h : Ow K e B X u L) (d : Dg w0 v xs g w X) (hB : w.heap.size ≤ B) : u.ownBlock = none ∨ u.ownBlock ≠ some g := by
  have := d.lt
  cases hv : u.ownBlock with
  | none => exact .inl rfl
  | some k => exact .inr (fun e => by injection e; have := h.block k hv; omega)
end
theorem arrows_lt {ns : List Nat} (h : RelN ns) (j F : Nat) : ns.getD j 0 &&& F < 2 ^ ns.length := Nat.lt_of_le_of_lt Nat.and_le_left (getD_lt h.2 j)
set_option maxRecDepth 100000 in
set_option maxHeartbeats 8000000 in
theorem spec_l33Framed (v : Value) (xs : List (Fin 256)) (w : World) (h : Sl cY w v xs) (hl : xs.length ≤ 4096) :
    Calls Tryz.prog 14 #[v, .bool true] w fun e w' => ∃ (n x : Int) (u1 u2 u3 : Value) (L1 : List Int) (L2 : List Nd) (L3 : List Int), e = .returned (.tuple #[.agg #[.int .i64 n, u1], u2, .int .i64 x, u3]) ∧ L1.length ≤ 9 ∧ L2.length ≤ 1001 ∧ L3.length = 6 ∧ Ro cI w.heap.size w' u1 L1 ∧ Ro cN w.heap.size w' u2 L2 ∧ Ro cI w.heap.size w' u3 L3 ∧ Below w.heap.size w w' := by
  have hb1 := below_alloc' w (.cells #[.int .i64 0, .slice none 0 0] 26)
  have R := Lib.hid (Blk.new w 26 #[.int .i64 0, .slice none 0 0])
  have HH := Lib.hid (h.below hb1)
  have HBW := Lib.hid hb1
  clear hb1 h
  go_enter Tryz.func14, Tryz.ntmps14
  go_upto_region 1 with fail
  generalize World.alloc w _ = W at *
  go_wp2_with fail
  refine (spec_l01From v xs W HH.out hl).mono ?_
  rintro e w1 ⟨rfl, hS, hb⟩
  have RNE : Hid (w.heap.size ≠ W.heap.size) := Lib.hid (fun e => by have := R.out.lt; omega)
  have ZR : Hid (w.heap.size < w1.heap.size) := Lib.hid (by have := R.out.lt; have := hb.size; omega)
  replace R := Lib.hid (R.out.below hb R.out.lt)
  have HB1 := Lib.hid (bthen HBW.out hb)
  have ZG : Hid (w.heap.size ≤ W.heap.size) := Lib.hid (by have := R.out.lt; have h1 := HBW.out.size; omega)
  have D := Lib.hid (Dg.start hS)
  clear hS hb HBW HH
  go_wp2_with fail
  refine (spec_l05Draw _ _ _ _ _ 5 D.out.S (by decide)).mono ?_
  rintro e w2 ⟨n, u, L, rfl, hn, hL, O, hS, hg⟩
  replace O := Lib.hid (D.out.made O)
  replace R := Lib.hid (R.out.grown hg (fun e => RNE.out (Option.some.inj e)))
  replace D := Lib.hid (D.out.call hS hg)
  clear hS hg
  obtain ⟨A, c, rfl⟩ := O.out.opn
  have NB := Lib.hid (O.out.block)
  go_upto_region 3 with fail
  have hb := below_alloc' w2 (.cells #[.int .i64 n, .slice A L.length c] 26)
  have F := Lib.hid (Blk.new w2 26 #[.int .i64 n, .slice A L.length c])
  have HF : Hid (w1.heap.size ≤ w2.heap.size) := Lib.hid D.out.size
  replace O := Lib.hid (O.out.below hb)
  replace R := Lib.hid (R.out.below hb R.out.lt)
  replace D := Lib.hid (D.out.below hb)
  clear hb
  obtain ⟨fb, hfb⟩ : ∃ b, w2.heap.size = b := ⟨_, rfl⟩
  generalize World.alloc w2 _ = WF at *
  rw [hfb] at F HF NB ⊢
  clear hfb
  have NF : Hid (∀ k, (Value.slice A L.length c).ownBlock = some k → k ≠ fb) := Lib.hid (fun k hk => by have := (NB.out k hk).2; omega)
  clear NB
  have kf := F.out.cell
  have lf := F.out.lt
  have ff := F.out.frozen
  go_wp2_with fail
  clear kf lf ff
  refine (spec_l05Is n _ L _ O.out.sl (by omega)).mono ?_
  rintro e w3 ⟨rfl, hb⟩
  replace O := Lib.hid (O.out.below hb)
  replace R := Lib.hid (R.out.below hb R.out.lt)
  replace F := Lib.hid (F.out.below hb F.out.lt)
  replace D := Lib.hid (D.out.below hb)
  clear hb
  cases hok : frOk n L
  · clear hok
    go_wp2_with fail
    refine (spec_l33Drawn _ _ _ _ _ D.out.S).mono ?_
    rintro e w4 ⟨u2, L2, x, rfl, hL2, P, hS, hg⟩
    replace P := Lib.hid (D.out.made P)
    replace O := Lib.hid (D.out.pass O.out hg)
    replace R := Lib.hid (R.out.grown hg (fun e => RNE.out (Option.some.inj e)))
    replace F := Lib.hid (D.out.blk F.out HF.out hg)
    replace D := Lib.hid (D.out.call hS hg)
    clear hS hg
    obtain ⟨A2, c2, rfl⟩ := P.out.opn
    have NO := Lib.hid (O.out.block)
    have NP := Lib.hid (P.out.block)
    have NV : Hid (w1.heap.size ≤ w4.heap.size) := Lib.hid D.out.size
    have NFv : Hid (fb < w4.heap.size) := Lib.hid F.out.lt
    go_upto_region 13 with fail
    have hb := below_alloc' w4 (.cells #[] 2)
    have OV0 : Hid (Ow cI 2 w4.heap.size (w4.alloc (.cells #[] 2)) (.slice (some ⟨w4.heap.size, 0, none⟩) 0 0) []) := Lib.hid (Ow.lit [] rfl rfl (Nat.le_refl _))
    replace O := Lib.hid (O.out.below hb)
    replace P := Lib.hid (P.out.below hb)
    replace R := Lib.hid (R.out.below hb R.out.lt)
    replace F := Lib.hid (F.out.below hb F.out.lt)
    replace D := Lib.hid (D.out.below hb)
    clear hb
    have VS0 : Hid (w4.heap.size ≤ (World.alloc w4 (.cells #[] 2)).heap.size) := Lib.hid (by simp)
    obtain ⟨vb, hvb⟩ : ∃ b, w4.heap.size = b := ⟨_, rfl⟩
    generalize World.alloc w4 _ = WV at *
    rw [hvb] at NO NP NV NFv OV0 VS0 ⊢
    clear hvb
    go_loopw [14, 15] (fun a i wr => ∃ (j : Nat) (V : List Int), i = .int .i64 (j : Int) ∧ j ≤ 6 ∧ V.length = j ∧ Ow cI 2 vb wr a V ∧ Ow cI 2 w1.heap.size wr (.slice A L.length c) L ∧ Ow cN 54 w1.heap.size wr (.slice A2 L2.length c2) L2 ∧ vb ≤ wr.heap.size ∧ Dg W v xs W.heap.size w1 wr ∧ Blk wr w.heap.size 26 #[.int .i64 0, .slice none 0 0] ∧ Blk wr fb 26 #[.int .i64 n, .slice A L.length c]) (fun _ i _ => 6 - (intOf i).toNat)
    case atStart => exact ⟨0, [], rfl, by omega, rfl, OV0.out, O.out, P.out, VS0.out, D.out, R.out, F.out⟩
    case round =>
      clear O P D R F OV0 VS0
      obtain ⟨j, V, rfl, hj, hV, OV, O, P, VS, D, R, F⟩ := hrel
      obtain ⟨AV, cV, rfl⟩ := OV.opn
      rw [hV] at OV ⊢
      replace OV := Lib.hid OV
      replace O := Lib.hid O
      replace P := Lib.hid P
      replace VS := Lib.hid VS
      replace D := Lib.hid D
      replace R := Lib.hid R
      replace F := Lib.hid F
      by_cases h6 : j < 6
      · have HV := Lib.hid hV
        clear hV
        have kf := F.out.cell
        have lf := F.out.lt
        have ff := F.out.frozen
        go_wp2_with fail
        all_goals (clear kf lf ff)
        all_goals (refine (spec_one8 _ _ (by omega) (by omega)).mono ?_)
        all_goals (rintro e w20 ⟨y, rfl, hy1, hy2, rfl⟩)
        all_goals (go_wp2_with fail)
        all_goals (refine (spec_l01Next _ _ _ _ _ _ D.out.S (by omega) (by omega)).mono ?_)
        all_goals (rintro e w21 ⟨z, rfl, hz, hS, hg, -⟩)
        all_goals (replace O := Lib.hid (D.out.pass O.out hg))
        all_goals (replace P := Lib.hid (D.out.pass P.out hg))
        all_goals (replace OV := Lib.hid (OV.out.kept hg (passV OV.out D.out NV.out)))
        all_goals (have VS2 := Lib.hid (Nat.le_trans VS.out hg.size))
        all_goals (replace F := Lib.hid (D.out.blk F.out HF.out hg))
        all_goals (replace R := Lib.hid (R.out.grown hg (fun e => RNE.out (Option.some.inj e))))
        all_goals (replace D := Lib.hid (D.out.call hS hg))
        all_goals (clear hS hg hz hy1 hy2)
        all_goals (go_wp2_with (at_builtin; refine stopHere ?_))
        all_goals (refine goHere ?_)
        all_goals (refine ap_one (K := cI) _ ty_int64 rfl _ _ rfl (B := vb) (v := .slice AV j cV) (xs := V) rfl OV.out (z : Int) rfl rfl (by rw [HV.out]; omega) VS2.out ?_)
        all_goals (intro v1 w9 ho1 hg1 hb1 hat1)
        all_goals (replace hg1 := grown_alloc _ hg1)
        all_goals (replace O := Lib.hid (O.out.kept hg1 (apart (fun k hk => (NO.out k hk).2) (fun k hk => (OV.out.block k hk).1))))
        all_goals (replace P := Lib.hid (P.out.kept hg1 (apart (fun k hk => (NP.out k hk).2) (fun k hk => (OV.out.block k hk).1))))
        all_goals (replace F := Lib.hid (F.out.grown hg1 (fun e => by have h1 := (OV.out.block _ e.symm).1; have h2 := NFv.out; omega)))
        all_goals (replace R := Lib.hid (R.out.grown hg1 (fun e => by have h1 := (OV.out.block _ e.symm).1; have h2 := NV.out; have h3 := ZR.out; omega)))
        all_goals (replace D := Lib.hid (D.out.grown hg1 (fun k e => Nat.le_trans NV.out (OV.out.block k e).1)))
        all_goals (replace VS2 := Lib.hid (Nat.le_trans VS2.out hg1.size))
        all_goals (replace OV := Lib.hid ho1)
        all_goals (obtain ⟨A9, c9, hv9⟩ := ho1.opn)
        all_goals (rw [List.length_append, List.length_singleton, HV.out] at hv9)
        all_goals (subst hv9)
        all_goals (have HV9 : Hid ((V ++ [(z : Int)]).length = j + 1) := Lib.hid (by rw [List.length_append, HV.out]; rfl))
        all_goals (clear ho1 hg1 hb1 hat1)
        all_goals (go_wp2)
        all_goals (exact ⟨⟨j + 1, _, by go_num, by omega, HV9.out, OV.out, O.out, P.out, VS2.out, D.out, R.out, F.out⟩, by simp [intOf]; omega⟩)
      · obtain rfl : j = 6 := by omega
        clear h6 hj
        go_wp2_with fail
        refine (spec_l01Next _ _ _ _ _ 24 D.out.S (by decide) (by decide)).mono ?_
        rintro e w35 ⟨k24, rfl, -, hS, hg, -⟩
        replace OV := Lib.hid (OV.out.kept hg (passV OV.out D.out NV.out))
        replace O := Lib.hid (D.out.pass O.out hg)
        replace P := Lib.hid (D.out.pass P.out hg)
        replace R := Lib.hid (R.out.grown hg (fun e => RNE.out (Option.some.inj e)))
        replace F := Lib.hid (D.out.blk F.out HF.out hg)
        replace D := Lib.hid (D.out.call hS hg)
        clear hS hg
        cases t24 : ((k24 : Int) == 0)
        · skip
          have kr := R.out.cell
          have fr := R.out.frozen
          have lr := R.out.lt
          have kf := F.out.cell
          have lf := F.out.lt
          have ff := F.out.frozen
          have z1 := ZR.out
          go_wp2
          refine bodyPost_ret (v := .tuple #[.agg #[.int .i64 n, .slice A L.length c], .slice A2 L2.length c2, .int .i64 x, .slice AV 6 cV]) (by simp [results, Tryz.results14, go_sem, kr, fr, lr, kf, lf, ff]) rfl ⟨_, x, _, _, _, L, L2, V, rfl, hL, hL2, hV, ?_, ?_, ?_, ?_⟩
          · exact (((O.out).ro.low (p := ⟨w.heap.size, 0, none⟩) z1 _).low (p := ⟨w.heap.size, 1, none⟩) z1 _).mono (Nat.le_of_lt z1)
          · exact (((P.out).ro.low (p := ⟨w.heap.size, 0, none⟩) z1 _).low (p := ⟨w.heap.size, 1, none⟩) z1 _).mono (Nat.le_of_lt z1)
          · exact ((((OV.out.mono NV.out)).ro.low (p := ⟨w.heap.size, 0, none⟩) z1 _).low (p := ⟨w.heap.size, 1, none⟩) z1 _).mono (Nat.le_of_lt z1)
          · exact ((below_grown HB1.out D.out.gr (Nat.le_of_lt z1) (fun k e => by have e1 : W.heap.size = k := Option.some.inj e; have := ZG.out; omega)).setCell (p := ⟨w.heap.size, 0, none⟩) (Nat.le_refl _) _).setCell (p := ⟨w.heap.size, 1, none⟩) (Nat.le_refl _) _
        · skip
          go_wp2_with fail
          have hb := below_alloc' w35 (.cells #[.int .i64 (-1), .int .i64 256] 2)
          have OL : Hid (Ow cI 2 w35.heap.size (World.alloc w35 (.cells #[.int .i64 (-1), .int .i64 256] 2)) (.slice (some ⟨w35.heap.size, 0, none⟩) 2 2) [-1, 256]) := Lib.hid (Ow.lit [-1, 256] rfl rfl (Nat.le_refl _))
          have hgl : W.heap.size < w35.heap.size := D.out.S.lt
          replace OV := Lib.hid (OV.out.below hb)
          replace O := Lib.hid (O.out.below hb)
          replace P := Lib.hid (P.out.below hb)
          replace R := Lib.hid (R.out.below hb R.out.lt)
          replace F := Lib.hid (F.out.below hb F.out.lt)
          replace D := Lib.hid (D.out.below hb)
          clear hb
          refine (spec_l01Pick _ _ _ _ _ _ [-1, 256] D.out.S OL.out.sl (.inr (fun e => by have e1 : w35.heap.size = W.heap.size := Option.some.inj e; omega)) (by simp) (by simp)).mono ?_
          rintro e w36 ⟨y, rfl, -, hS, hg, -⟩
          replace OV := Lib.hid (OV.out.kept hg (passV OV.out D.out NV.out))
          replace O := Lib.hid (D.out.pass O.out hg)
          replace P := Lib.hid (D.out.pass P.out hg)
          replace R := Lib.hid (R.out.grown hg (fun e => RNE.out (Option.some.inj e)))
          replace F := Lib.hid (D.out.blk F.out HF.out hg)
          replace D := Lib.hid (D.out.call hS hg)
          clear hS hg OL hgl
          have hmt : 1 < V.length := by omega
          obtain ⟨gv, cc, hv, gB, gl, -⟩ := OV.out.form (by omega)
          injection hv with hA hN hC
          subst hA
          subst hC
          clear hN
          obtain ⟨c2v, f2v, -, -⟩ := OV.out.at1 rfl hmt rfl
          have O9 := Lib.hid (OV.out.set1 (j := 1) (x := y) (u := .int .i64 y) rfl rfl hmt)
          have V9 : Hid ((V.set 1 y).length = 6) := Lib.hid (by rw [List.length_set]; exact hV)
          have QO := Lib.hid (O.out.far (p := ⟨gv, 1, none⟩) (fun e => by have := (NO.out gv e).2; omega) (.int .i64 y))
          have QP := Lib.hid (P.out.far (p := ⟨gv, 1, none⟩) (fun e => by have := (NP.out gv e).2; omega) (.int .i64 y))
          have QF := Lib.hid (F.out.far (p := ⟨gv, 1, none⟩) (fun e => by have e1 : fb = gv := e; have := NFv.out; omega) (.int .i64 y))
          have QR := Lib.hid (R.out.far (p := ⟨gv, 1, none⟩) (fun e => by have e1 : w.heap.size = gv := e; have := ZR.out; have := NV.out; omega) (.int .i64 y))
          have QD := Lib.hid (D.out.set (p := ⟨gv, 1, none⟩) (Nat.le_trans NV.out gB) (.int .i64 y))
          clear O P F R D OV
          have O := QO
          have P := QP
          have F := QF
          have R := QR
          have D := QD
          have OV := O9
          clear QO QP QF QR QD O9
          go_upto_region 18 with fail
          generalize World.setCell w36 _ _ = W9 at *
          clear c2v f2v hmt t24 gl
          have kr := R.out.cell
          have fr := R.out.frozen
          have lr := R.out.lt
          have kf := F.out.cell
          have lf := F.out.lt
          have ff := F.out.frozen
          have z1 := ZR.out
          go_wp2
          refine bodyPost_ret (v := .tuple #[.agg #[.int .i64 n, .slice A L.length c], .slice A2 L2.length c2, .int .i64 x, .slice (some ⟨gv, 0, none⟩) 6 cV]) (by simp [results, Tryz.results14, go_sem, kr, fr, lr, kf, lf, ff]) rfl ⟨_, x, _, _, _, L, L2, (V.set 1 y), rfl, hL, hL2, V9.out, ?_, ?_, ?_, ?_⟩
          · exact (((O.out).ro.low (p := ⟨w.heap.size, 0, none⟩) z1 _).low (p := ⟨w.heap.size, 1, none⟩) z1 _).mono (Nat.le_of_lt z1)
          · exact (((P.out).ro.low (p := ⟨w.heap.size, 0, none⟩) z1 _).low (p := ⟨w.heap.size, 1, none⟩) z1 _).mono (Nat.le_of_lt z1)
          · exact ((((OV.out.mono NV.out)).ro.low (p := ⟨w.heap.size, 0, none⟩) z1 _).low (p := ⟨w.heap.size, 1, none⟩) z1 _).mono (Nat.le_of_lt z1)
          · exact ((below_grown HB1.out D.out.gr (Nat.le_of_lt z1) (fun k e => by have e1 : W.heap.size = k := Option.some.inj e; have := ZG.out; omega)).setCell (p := ⟨w.heap.size, 0, none⟩) (Nat.le_refl _) _).setCell (p := ⟨w.heap.size, 1, none⟩) (Nat.le_refl _) _
  · obtain ⟨ns, rfl, rfl, hr⟩ := frOk_iff hok
    have hn8 := hr.1
    rw [li_length] at O F NF hL ⊢
    clear hok hn
    have HR := Lib.hid hr
    clear hr
    go_wp2_with fail
    refine (spec_l01Next _ _ _ _ _ 8 D.out.S (by decide) (by decide)).mono ?_
    rintro e w37 ⟨k8, rfl, hk8, hS, hg, -⟩
    replace O := Lib.hid (D.out.pass O.out hg)
    replace R := Lib.hid (R.out.grown hg (fun e => RNE.out (Option.some.inj e)))
    replace F := Lib.hid (D.out.blk F.out HF.out hg)
    replace D := Lib.hid (D.out.call hS hg)
    clear hS hg
    by_cases h8 : 0 < (k8 : Int)
    · clear hk8
      have NO := Lib.hid (O.out.block)
      have NV : Hid (w1.heap.size ≤ w37.heap.size) := Lib.hid D.out.size
      have NFv : Hid (fb < w37.heap.size) := Lib.hid F.out.lt
      go_upto_region 5 with fail
      have hb := below_alloc' w37 (.cells #[] 2)
      have OM0 : Hid (Ow cI 2 w37.heap.size (w37.alloc (.cells #[] 2)) (.slice (some ⟨w37.heap.size, 0, none⟩) 0 0) (li [])) := Lib.hid (Ow.lit [] rfl rfl (Nat.le_refl _))
      replace O := Lib.hid (O.out.below hb)
      replace R := Lib.hid (R.out.below hb R.out.lt)
      replace F := Lib.hid (F.out.below hb F.out.lt)
      replace D := Lib.hid (D.out.below hb)
      clear hb
      have VS0 : Hid (w37.heap.size ≤ (World.alloc w37 (.cells #[] 2)).heap.size) := Lib.hid (by simp)
      obtain ⟨ab, hab⟩ : ∃ b, w37.heap.size = b := ⟨_, rfl⟩
      generalize World.alloc w37 _ = WA at *
      rw [hab] at NO NV NFv OM0 VS0 ⊢
      clear hab
      obtain ⟨PN, hPN⟩ : ∃ q, q = 2 ^ ns.length := ⟨_, rfl⟩
      have hP256 : PN ≤ 256 := by rw [hPN]; exact two_pow_256 hn8
      have HPN := Lib.hid hPN
      clear hPN
      go_wp2
      go_loopw [10, 11] (fun a i wr => ∃ (j : Nat) (ms : List Nat), i = .int .i64 (j : Int) ∧ j ≤ ns.length ∧ ms.length = j ∧ (∀ m ∈ ms, m < PN) ∧ Ow cI 2 ab wr a (li ms) ∧ Ow cI 2 w1.heap.size wr (.slice A ns.length c) (li ns) ∧ ab ≤ wr.heap.size ∧ Dg W v xs W.heap.size w1 wr ∧ Blk wr w.heap.size 26 #[.int .i64 0, .slice none 0 0] ∧ Blk wr fb 26 #[.int .i64 (ns.length : Int), .slice A ns.length c]) (fun _ i _ => ns.length - (intOf i).toNat)
      case atStart => exact ⟨0, [], rfl, Nat.zero_le _, rfl, by simp, OM0.out, O.out, VS0.out, D.out, R.out, F.out⟩
      case round =>
        clear O D R F OM0 VS0
        obtain ⟨j, ms, rfl, hj, hml, hms, OM, O, VS, D, R, F⟩ := hrel
        obtain ⟨AM, cM, rfl⟩ := OM.opn
        rw [li_length, hml] at OM ⊢
        replace OM := Lib.hid OM
        replace O := Lib.hid O
        replace VS := Lib.hid VS
        replace D := Lib.hid D
        replace R := Lib.hid R
        replace F := Lib.hid F
        replace hml := Lib.hid hml
        replace hms := Lib.hid hms
        have kf := F.out.cell
        have lf := F.out.lt
        have ff := F.out.frozen
        by_cases hlt : j < ns.length
        · skip
          go_upto_region 8 with fail
          clear kf lf ff
          have hb := (Below.refl wr.heap.size wr).drew
          replace OM := Lib.hid (OM.out.below hb)
          replace O := Lib.hid (O.out.below hb)
          replace R := Lib.hid (R.out.below hb R.out.lt)
          replace F := Lib.hid (F.out.below hb F.out.lt)
          replace D := Lib.hid (D.out.below hb)
          replace VS := Lib.hid (Nat.le_trans VS.out hb.size)
          clear hb
          obtain ⟨b, o, rfl, hbl, hc0⟩ := O.out.sl.atI (k := j) (by rw [li_length]; exact hlt)
          rw [li_get] at hc0
          have hx := Nat.lt_of_lt_of_le (getD_lt HR.out.2 j) (two_pow_256 HR.out.1)
          have HXL : Hid (∀ y, ns.getD j 0 &&& y < PN) := Lib.hid (fun y => by rw [HPN.out]; exact arrows_lt HR.out j y)
          obtain ⟨F1, hF1⟩ : ∃ F1, F1 = 2 ^ j - 1 := ⟨_, rfl⟩
          have hF1b : F1 < 9223372036854775808 := by have := two_pow_lt (show j ≤ 62 by omega); omega
          have HF1 := Lib.hid hF1
          clear hF1
          generalize ns.getD j 0 = xx at *
          have HE := Lib.hid (i64_and_nat xx F1 (by omega) (by omega))
          have HX2 := Lib.hid (HXL.out F1)
          have hX2 := HXL.out F1
          clear HXL
          generalize xx &&& F1 = zz at *
          have hI : (fun X : World => X.cell? ⟨fb, 1, none⟩ = some (.slice (some ⟨b, o, none⟩) ns.length c) ∧ X.cell? ⟨b, o + j, none⟩ = some (.int .i64 (xx : Int))) (World.drew wr) := ⟨F.out.cell 1, hc0⟩
          refine wp_region_sched (fun X => X.cell? ⟨fb, 1, none⟩ = some (.slice (some ⟨b, o, none⟩) ns.length c) ∧ X.cell? ⟨b, o + j, none⟩ = some (.int .i64 (xx : Int))) 10 [0, 1, 2, 3, 4, 5, 6, 8] [0, 1, 2, 3, 4, 5, 6, 7, 8, 9] (by kernel_rfl) (by kernel_rfl) hI ?_
          generalize World.drew wr = wd at *
          repeat
            apply wpSched_q rfl rfl
            case h =>
              intro w' hI K hK
              have cc0 : w'.cell? ⟨fb, 1, none⟩ = some (.slice (some ⟨b, o, none⟩) ns.length c) := hI.1
              have cc1 : w'.cell? ⟨b, o + j, none⟩ = some (.int .i64 (xx : Int)) := hI.2
              simp only [quietV, stillV]
              go_simp
              exact hK
            go_simp
          refine wpSched_r rfl rfl ?_ hI
          intro K hK _
          go_simp
          refine (spec_l01Full' j F1 HF1.out _ (by omega)).mono ?_
          rintro e w8 ⟨rfl, rfl⟩
          refine hK _ _ hI ?_
          clear hK K
          repeat
            apply wpSched_q rfl rfl
            case h =>
              intro w' hI K hK
              have cc0 : w'.cell? ⟨fb, 1, none⟩ = some (.slice (some ⟨b, o, none⟩) ns.length c) := hI.1
              have cc1 : w'.cell? ⟨b, o + j, none⟩ = some (.int .i64 (xx : Int)) := hI.2
              simp only [quietV, stillV]
              go_simp
              exact hK
            go_simp
          rw [HE.out]
          refine wpSched_r rfl rfl ?_ hI
          intro K hK _
          go_simp
          have hb := below_alloc' wd (.cells #[.int .i64 (zz : Int)] 2)
          refine hK _ _ ⟨(F.out.below hb F.out.lt).cell 1, (hb.cell (p := ⟨b, o + j, none⟩) hbl).trans hc0⟩ ?_
          clear hK K hb
          refine wpSched_nil ?_
          try simp only [List.drop_succ_cons, List.drop_zero, List.drop_nil]
          change wpList _ _ _ _ _ (World.alloc wd _)
          refine ap_one (K := cI) wd ty_int64 rfl _ _ rfl (B := ab) (v := .slice AM j cM) (xs := li ms) rfl OM.out (zz : Int) rfl rfl (by rw [li_length, hml.out]; omega) VS.out ?_
          intro v1 w9 ho1 hg1 hb1 hat1
          rw [← li_snoc] at ho1
          replace hg1 := grown_alloc _ hg1
          replace O := Lib.hid (O.out.kept hg1 (apart (fun k hk => (NO.out k hk).2) (fun k hk => (OM.out.block k hk).1)))
          replace F := Lib.hid (F.out.grown hg1 (fun e => by have h1 := (OM.out.block _ e.symm).1; have h2 := NFv.out; omega))
          replace R := Lib.hid (R.out.grown hg1 (fun e => by have h1 := (OM.out.block _ e.symm).1; have h2 := NV.out; have h3 := ZR.out; omega))
          replace D := Lib.hid (D.out.grown hg1 (fun k e => Nat.le_trans NV.out (OM.out.block k e).1))
          replace VS := Lib.hid (Nat.le_trans VS.out hg1.size)
          replace OM := Lib.hid ho1
          obtain ⟨A9, c9, hv9⟩ := ho1.opn
          rw [li_length, List.length_append, List.length_singleton, hml.out] at hv9
          subst hv9
          have HM9 : Hid ((ms ++ [zz]).length = j + 1 ∧ ∀ y ∈ ms ++ [zz], y < PN) := Lib.hid ⟨by rw [List.length_append, hml.out]; rfl, fun y hy => (List.mem_append.1 hy).elim (hms.out y) (fun h => by rw [List.mem_singleton.1 h]; exact HX2.out)⟩
          clear ho1 hg1 hb1 hat1 hI hc0 hbl
          go_wp2
          go_roundw
          case rel =>
            rw [show decide (0 < k8) = true from decide_eq_true (by omega)]
            refine ⟨_, .int .i64 ((j + 1 : Nat) : Int), _, _, _, _, _, _, _, _, _, _, _, _, _, _, _, _, _, ⟨j + 1, ms ++ [zz], rfl, by omega, HM9.out.1, HM9.out.2, OM.out, O.out, VS.out, D.out, R.out, F.out⟩, rfl⟩
          case measure => simp [intOf]; omega
        · obtain rfl : j = ns.length := by omega
          clear hlt hj
          have HRM : Hid (RelN ms) := Lib.hid ⟨by rw [hml.out]; exact HR.out.1, fun m hm => by rw [hml.out, ← HPN.out]; exact hms.out m hm⟩
          go_wp2_with fail
          refine (spec_l01Closure _ ms _ OM.out.sl HRM.out).mono ?_
          rintro e w58 ⟨u4, rfl, O4, hb⟩
          replace O4 := Lib.hid (D.out.made O4)
          replace OM := Lib.hid (OM.out.below hb)
          replace O := Lib.hid (O.out.below hb)
          replace R := Lib.hid (R.out.below hb R.out.lt)
          replace F := Lib.hid (F.out.below hb F.out.lt)
          replace D := Lib.hid (D.out.below hb)
          clear hb
          go_wp2_with fail
          refine (spec_l05Make _ (li (clo ms ms.length)) _ O4.out.sl (by rw [li_length, clo_length, hml.out]; omega)).mono ?_
          rintro e w59 ⟨u5, rfl, O5, hb⟩
          have NB5 : Hid (∀ k, u5.ownBlock = some k → fb < k) := Lib.hid (fun k hk => by have := (O5.block k hk).1; have := F.out.lt; omega)
          replace O5 := Lib.hid (D.out.made O5)
          replace OM := Lib.hid (OM.out.below hb)
          replace O := Lib.hid (O.out.below hb)
          replace O4 := Lib.hid (O4.out.below hb)
          replace R := Lib.hid (R.out.below hb R.out.lt)
          replace F := Lib.hid (F.out.below hb F.out.lt)
          replace D := Lib.hid (D.out.below hb)
          clear hb
          have HL5 : Hid ((li (clo ms ms.length)).length ≤ 9) := Lib.hid (by rw [li_length, clo_length, hml.out]; omega)
          generalize li (clo ms ms.length) = L5 at *
          obtain ⟨A5, c5, rfl⟩ := O5.out.opn
          clear kf lf ff
          have kf := F.out.cell
          have lf := F.out.lt
          have ff := F.out.frozen
          have QO := Lib.hid ((O5.out.far (p := ⟨fb, 0, none⟩) (fun e => by have := NB5.out fb e; omega) (.int .i64 (L5.length : Int))).far (p := ⟨fb, 1, none⟩) (fun e => by have := NB5.out fb e; omega) (.slice A5 L5.length c5))
          have QR := Lib.hid ((R.out.far (p := ⟨fb, 0, none⟩) (fun e => by have e1 : w.heap.size = fb := e; have := ZR.out; have := HF.out; omega) (.int .i64 (L5.length : Int))).far (p := ⟨fb, 1, none⟩) (fun e => by have e1 : w.heap.size = fb := e; have := ZR.out; have := HF.out; omega) (.slice A5 L5.length c5))
          have QD := Lib.hid ((D.out.set (p := ⟨fb, 0, none⟩) HF.out (.int .i64 (L5.length : Int))).set (p := ⟨fb, 1, none⟩) HF.out (.slice A5 L5.length c5))
          have QF := Lib.hid ((F.out.set_ 0 (.int .i64 (L5.length : Int))).set_ 1 (.slice A5 L5.length c5))
          go_upto_region 10 with fail
          generalize World.setCell (World.setCell w59 _ _) _ _ = W5 at *
          clear kf lf ff O OM O4 O5 R D F hms hml HRM NO NV NFv VS HPN
          have O := QO
          have R := QR
          have D := QD
          have F := QF
          clear QO QR QD QF
          go_wp2_with fail
          refine (spec_l33Drawn _ _ _ _ _ D.out.S).mono ?_
          rintro e w60 ⟨u2, L2, x, rfl, hL2, P, hS, hg⟩
          replace P := Lib.hid (D.out.made P)
          replace O := Lib.hid (D.out.pass O.out hg)
          replace R := Lib.hid (R.out.grown hg (fun e => RNE.out (Option.some.inj e)))
          replace F := Lib.hid (D.out.blk F.out HF.out hg)
          replace D := Lib.hid (D.out.call hS hg)
          clear hS hg
          obtain ⟨A2, c2, rfl⟩ := P.out.opn
          have NO := Lib.hid (O.out.block)
          have NP := Lib.hid (P.out.block)
          have NV : Hid (w1.heap.size ≤ w60.heap.size) := Lib.hid D.out.size
          have NFv : Hid (fb < w60.heap.size) := Lib.hid F.out.lt
          go_upto_region 13 with fail
          have hb := below_alloc' w60 (.cells #[] 2)
          have OV0 : Hid (Ow cI 2 w60.heap.size (w60.alloc (.cells #[] 2)) (.slice (some ⟨w60.heap.size, 0, none⟩) 0 0) []) := Lib.hid (Ow.lit [] rfl rfl (Nat.le_refl _))
          replace O := Lib.hid (O.out.below hb)
          replace P := Lib.hid (P.out.below hb)
          replace R := Lib.hid (R.out.below hb R.out.lt)
          replace F := Lib.hid (F.out.below hb F.out.lt)
          replace D := Lib.hid (D.out.below hb)
          clear hb
          have VS0 : Hid (w60.heap.size ≤ (World.alloc w60 (.cells #[] 2)).heap.size) := Lib.hid (by simp)
          obtain ⟨vb, hvb⟩ : ∃ b, w60.heap.size = b := ⟨_, rfl⟩
          generalize World.alloc w60 _ = WV at *
          rw [hvb] at NO NP NV NFv OV0 VS0 ⊢
          clear hvb
          go_loopw [14, 15] (fun a i wr => ∃ (j : Nat) (V : List Int), i = .int .i64 (j : Int) ∧ j ≤ 6 ∧ V.length = j ∧ Ow cI 2 vb wr a V ∧ Ow cI 2 w1.heap.size wr (.slice A5 L5.length c5) L5 ∧ Ow cN 54 w1.heap.size wr (.slice A2 L2.length c2) L2 ∧ vb ≤ wr.heap.size ∧ Dg W v xs W.heap.size w1 wr ∧ Blk wr w.heap.size 26 #[.int .i64 0, .slice none 0 0] ∧ Blk wr fb 26 #[.int .i64 (L5.length : Int), .slice A5 L5.length c5]) (fun _ i _ => 6 - (intOf i).toNat)
          case atStart => exact ⟨0, [], rfl, by omega, rfl, OV0.out, O.out, P.out, VS0.out, D.out, R.out, F.out⟩
          case round =>
            clear O P D R F OV0 VS0
            obtain ⟨j, V, rfl, hj, hV, OV, O, P, VS, D, R, F⟩ := hrel
            obtain ⟨AV, cV, rfl⟩ := OV.opn
            rw [hV] at OV ⊢
            replace OV := Lib.hid OV
            replace O := Lib.hid O
            replace P := Lib.hid P
            replace VS := Lib.hid VS
            replace D := Lib.hid D
            replace R := Lib.hid R
            replace F := Lib.hid F
            by_cases h6 : j < 6
            · have HV := Lib.hid hV
              clear hV
              have kf := F.out.cell
              have lf := F.out.lt
              have ff := F.out.frozen
              go_wp2_with fail
              all_goals (clear kf lf ff)
              all_goals (refine (spec_one8 _ _ (by omega) (by omega)).mono ?_)
              all_goals (rintro e w20 ⟨y, rfl, hy1, hy2, rfl⟩)
              all_goals (go_wp2_with fail)
              all_goals (refine (spec_l01Next _ _ _ _ _ _ D.out.S (by omega) (by omega)).mono ?_)
              all_goals (rintro e w21 ⟨z, rfl, hz, hS, hg, -⟩)
              all_goals (replace O := Lib.hid (D.out.pass O.out hg))
              all_goals (replace P := Lib.hid (D.out.pass P.out hg))
              all_goals (replace OV := Lib.hid (OV.out.kept hg (passV OV.out D.out NV.out)))
              all_goals (have VS2 := Lib.hid (Nat.le_trans VS.out hg.size))
              all_goals (replace F := Lib.hid (D.out.blk F.out HF.out hg))
              all_goals (replace R := Lib.hid (R.out.grown hg (fun e => RNE.out (Option.some.inj e))))
              all_goals (replace D := Lib.hid (D.out.call hS hg))
              all_goals (clear hS hg hz hy1 hy2)
              all_goals (go_wp2_with (at_builtin; refine stopHere ?_))
              all_goals (refine goHere ?_)
              all_goals (refine ap_one (K := cI) _ ty_int64 rfl _ _ rfl (B := vb) (v := .slice AV j cV) (xs := V) rfl OV.out (z : Int) rfl rfl (by rw [HV.out]; omega) VS2.out ?_)
              all_goals (intro v1 w9 ho1 hg1 hb1 hat1)
              all_goals (replace hg1 := grown_alloc _ hg1)
              all_goals (replace O := Lib.hid (O.out.kept hg1 (apart (fun k hk => (NO.out k hk).2) (fun k hk => (OV.out.block k hk).1))))
              all_goals (replace P := Lib.hid (P.out.kept hg1 (apart (fun k hk => (NP.out k hk).2) (fun k hk => (OV.out.block k hk).1))))
              all_goals (replace F := Lib.hid (F.out.grown hg1 (fun e => by have h1 := (OV.out.block _ e.symm).1; have h2 := NFv.out; omega)))
              all_goals (replace R := Lib.hid (R.out.grown hg1 (fun e => by have h1 := (OV.out.block _ e.symm).1; have h2 := NV.out; have h3 := ZR.out; omega)))
              all_goals (replace D := Lib.hid (D.out.grown hg1 (fun k e => Nat.le_trans NV.out (OV.out.block k e).1)))
              all_goals (replace VS2 := Lib.hid (Nat.le_trans VS2.out hg1.size))
              all_goals (replace OV := Lib.hid ho1)
              all_goals (obtain ⟨A9, c9, hv9⟩ := ho1.opn)
              all_goals (rw [List.length_append, List.length_singleton, HV.out] at hv9)
              all_goals (subst hv9)
              all_goals (have HV9 : Hid ((V ++ [(z : Int)]).length = j + 1) := Lib.hid (by rw [List.length_append, HV.out]; rfl))
              all_goals (clear ho1 hg1 hb1 hat1)
              all_goals (go_wp2)
              all_goals (exact ⟨⟨j + 1, _, by go_num, by omega, HV9.out, OV.out, O.out, P.out, VS2.out, D.out, R.out, F.out⟩, by simp [intOf]; omega⟩)
            · obtain rfl : j = 6 := by omega
              clear h6 hj
              go_wp2_with fail
              refine (spec_l01Next _ _ _ _ _ 24 D.out.S (by decide) (by decide)).mono ?_
              rintro e w91 ⟨k24, rfl, -, hS, hg, -⟩
              replace OV := Lib.hid (OV.out.kept hg (passV OV.out D.out NV.out))
              replace O := Lib.hid (D.out.pass O.out hg)
              replace P := Lib.hid (D.out.pass P.out hg)
              replace R := Lib.hid (R.out.grown hg (fun e => RNE.out (Option.some.inj e)))
              replace F := Lib.hid (D.out.blk F.out HF.out hg)
              replace D := Lib.hid (D.out.call hS hg)
              clear hS hg
              cases t24 : ((k24 : Int) == 0)
              · skip
                have kr := R.out.cell
                have fr := R.out.frozen
                have lr := R.out.lt
                have kf := F.out.cell
                have lf := F.out.lt
                have ff := F.out.frozen
                have z1 := ZR.out
                go_wp2
                refine bodyPost_ret (v := .tuple #[.agg #[.int .i64 (L5.length : Int), .slice A5 L5.length c5], .slice A2 L2.length c2, .int .i64 x, .slice AV 6 cV]) (by simp [results, Tryz.results14, go_sem, kr, fr, lr, kf, lf, ff]) rfl ⟨_, x, _, _, _, L5, L2, V, rfl, HL5.out, hL2, hV, ?_, ?_, ?_, ?_⟩
                · exact (((O.out).ro.low (p := ⟨w.heap.size, 0, none⟩) z1 _).low (p := ⟨w.heap.size, 1, none⟩) z1 _).mono (Nat.le_of_lt z1)
                · exact (((P.out).ro.low (p := ⟨w.heap.size, 0, none⟩) z1 _).low (p := ⟨w.heap.size, 1, none⟩) z1 _).mono (Nat.le_of_lt z1)
                · exact ((((OV.out.mono NV.out)).ro.low (p := ⟨w.heap.size, 0, none⟩) z1 _).low (p := ⟨w.heap.size, 1, none⟩) z1 _).mono (Nat.le_of_lt z1)
                · exact ((below_grown HB1.out D.out.gr (Nat.le_of_lt z1) (fun k e => by have e1 : W.heap.size = k := Option.some.inj e; have := ZG.out; omega)).setCell (p := ⟨w.heap.size, 0, none⟩) (Nat.le_refl _) _).setCell (p := ⟨w.heap.size, 1, none⟩) (Nat.le_refl _) _
              · skip
                go_wp2_with fail
                have hb := below_alloc' w91 (.cells #[.int .i64 (-1), .int .i64 256] 2)
                have OL : Hid (Ow cI 2 w91.heap.size (World.alloc w91 (.cells #[.int .i64 (-1), .int .i64 256] 2)) (.slice (some ⟨w91.heap.size, 0, none⟩) 2 2) [-1, 256]) := Lib.hid (Ow.lit [-1, 256] rfl rfl (Nat.le_refl _))
                have hgl : W.heap.size < w91.heap.size := D.out.S.lt
                replace OV := Lib.hid (OV.out.below hb)
                replace O := Lib.hid (O.out.below hb)
                replace P := Lib.hid (P.out.below hb)
                replace R := Lib.hid (R.out.below hb R.out.lt)
                replace F := Lib.hid (F.out.below hb F.out.lt)
                replace D := Lib.hid (D.out.below hb)
                clear hb
                refine (spec_l01Pick _ _ _ _ _ _ [-1, 256] D.out.S OL.out.sl (.inr (fun e => by have e1 : w91.heap.size = W.heap.size := Option.some.inj e; omega)) (by simp) (by simp)).mono ?_
                rintro e w92 ⟨y, rfl, -, hS, hg, -⟩
                replace OV := Lib.hid (OV.out.kept hg (passV OV.out D.out NV.out))
                replace O := Lib.hid (D.out.pass O.out hg)
                replace P := Lib.hid (D.out.pass P.out hg)
                replace R := Lib.hid (R.out.grown hg (fun e => RNE.out (Option.some.inj e)))
                replace F := Lib.hid (D.out.blk F.out HF.out hg)
                replace D := Lib.hid (D.out.call hS hg)
                clear hS hg OL hgl
                have hmt : 1 < V.length := by omega
                obtain ⟨gv, cc, hv, gB, gl, -⟩ := OV.out.form (by omega)
                injection hv with hA hN hC
                subst hA
                subst hC
                clear hN
                obtain ⟨c2v, f2v, -, -⟩ := OV.out.at1 rfl hmt rfl
                have O9 := Lib.hid (OV.out.set1 (j := 1) (x := y) (u := .int .i64 y) rfl rfl hmt)
                have V9 : Hid ((V.set 1 y).length = 6) := Lib.hid (by rw [List.length_set]; exact hV)
                have QO := Lib.hid (O.out.far (p := ⟨gv, 1, none⟩) (fun e => by have := (NO.out gv e).2; omega) (.int .i64 y))
                have QP := Lib.hid (P.out.far (p := ⟨gv, 1, none⟩) (fun e => by have := (NP.out gv e).2; omega) (.int .i64 y))
                have QF := Lib.hid (F.out.far (p := ⟨gv, 1, none⟩) (fun e => by have e1 : fb = gv := e; have := NFv.out; omega) (.int .i64 y))
                have QR := Lib.hid (R.out.far (p := ⟨gv, 1, none⟩) (fun e => by have e1 : w.heap.size = gv := e; have := ZR.out; have := NV.out; omega) (.int .i64 y))
                have QD := Lib.hid (D.out.set (p := ⟨gv, 1, none⟩) (Nat.le_trans NV.out gB) (.int .i64 y))
                clear O P F R D OV
                have O := QO
                have P := QP
                have F := QF
                have R := QR
                have D := QD
                have OV := O9
                clear QO QP QF QR QD O9
                go_upto_region 18 with fail
                generalize World.setCell w92 _ _ = W9 at *
                clear c2v f2v hmt t24 gl
                have kr := R.out.cell
                have fr := R.out.frozen
                have lr := R.out.lt
                have kf := F.out.cell
                have lf := F.out.lt
                have ff := F.out.frozen
                have z1 := ZR.out
                go_wp2
                refine bodyPost_ret (v := .tuple #[.agg #[.int .i64 (L5.length : Int), .slice A5 L5.length c5], .slice A2 L2.length c2, .int .i64 x, .slice (some ⟨gv, 0, none⟩) 6 cV]) (by simp [results, Tryz.results14, go_sem, kr, fr, lr, kf, lf, ff]) rfl ⟨_, x, _, _, _, L5, L2, (V.set 1 y), rfl, HL5.out, hL2, V9.out, ?_, ?_, ?_, ?_⟩
                · exact (((O.out).ro.low (p := ⟨w.heap.size, 0, none⟩) z1 _).low (p := ⟨w.heap.size, 1, none⟩) z1 _).mono (Nat.le_of_lt z1)
                · exact (((P.out).ro.low (p := ⟨w.heap.size, 0, none⟩) z1 _).low (p := ⟨w.heap.size, 1, none⟩) z1 _).mono (Nat.le_of_lt z1)
                · exact ((((OV.out.mono NV.out)).ro.low (p := ⟨w.heap.size, 0, none⟩) z1 _).low (p := ⟨w.heap.size, 1, none⟩) z1 _).mono (Nat.le_of_lt z1)
                · exact ((below_grown HB1.out D.out.gr (Nat.le_of_lt z1) (fun k e => by have e1 : W.heap.size = k := Option.some.inj e; have := ZG.out; omega)).setCell (p := ⟨w.heap.size, 0, none⟩) (Nat.le_refl _) _).setCell (p := ⟨w.heap.size, 1, none⟩) (Nat.le_refl _) _
    · clear hk8
      go_wp2_with fail
      refine (spec_l33Drawn _ _ _ _ _ D.out.S).mono ?_
      rintro e w93 ⟨u2, L2, x, rfl, hL2, P, hS, hg⟩
      replace P := Lib.hid (D.out.made P)
      replace O := Lib.hid (D.out.pass O.out hg)
      replace R := Lib.hid (R.out.grown hg (fun e => RNE.out (Option.some.inj e)))
      replace F := Lib.hid (D.out.blk F.out HF.out hg)
      replace D := Lib.hid (D.out.call hS hg)
      clear hS hg
      obtain ⟨A2, c2, rfl⟩ := P.out.opn
      have NO := Lib.hid (O.out.block)
      have NP := Lib.hid (P.out.block)
      have NV : Hid (w1.heap.size ≤ w93.heap.size) := Lib.hid D.out.size
      have NFv : Hid (fb < w93.heap.size) := Lib.hid F.out.lt
      go_upto_region 13 with fail
      have hb := below_alloc' w93 (.cells #[] 2)
      have OV0 : Hid (Ow cI 2 w93.heap.size (w93.alloc (.cells #[] 2)) (.slice (some ⟨w93.heap.size, 0, none⟩) 0 0) []) := Lib.hid (Ow.lit [] rfl rfl (Nat.le_refl _))
      replace O := Lib.hid (O.out.below hb)
      replace P := Lib.hid (P.out.below hb)
      replace R := Lib.hid (R.out.below hb R.out.lt)
      replace F := Lib.hid (F.out.below hb F.out.lt)
      replace D := Lib.hid (D.out.below hb)
      clear hb
      have VS0 : Hid (w93.heap.size ≤ (World.alloc w93 (.cells #[] 2)).heap.size) := Lib.hid (by simp)
      obtain ⟨vb, hvb⟩ : ∃ b, w93.heap.size = b := ⟨_, rfl⟩
      generalize World.alloc w93 _ = WV at *
      rw [hvb] at NO NP NV NFv OV0 VS0 ⊢
      clear hvb
      go_loopw [14, 15] (fun a i wr => ∃ (j : Nat) (V : List Int), i = .int .i64 (j : Int) ∧ j ≤ 6 ∧ V.length = j ∧ Ow cI 2 vb wr a V ∧ Ow cI 2 w1.heap.size wr (.slice A ns.length c) (li ns) ∧ Ow cN 54 w1.heap.size wr (.slice A2 L2.length c2) L2 ∧ vb ≤ wr.heap.size ∧ Dg W v xs W.heap.size w1 wr ∧ Blk wr w.heap.size 26 #[.int .i64 0, .slice none 0 0] ∧ Blk wr fb 26 #[.int .i64 (ns.length : Int), .slice A ns.length c]) (fun _ i _ => 6 - (intOf i).toNat)
      case atStart => exact ⟨0, [], rfl, by omega, rfl, OV0.out, O.out, P.out, VS0.out, D.out, R.out, F.out⟩
      case round =>
        clear O P D R F OV0 VS0
        obtain ⟨j, V, rfl, hj, hV, OV, O, P, VS, D, R, F⟩ := hrel
        obtain ⟨AV, cV, rfl⟩ := OV.opn
        rw [hV] at OV ⊢
        replace OV := Lib.hid OV
        replace O := Lib.hid O
        replace P := Lib.hid P
        replace VS := Lib.hid VS
        replace D := Lib.hid D
        replace R := Lib.hid R
        replace F := Lib.hid F
        by_cases h6 : j < 6
        · have HV := Lib.hid hV
          clear hV
          have kf := F.out.cell
          have lf := F.out.lt
          have ff := F.out.frozen
          go_wp2_with fail
          all_goals (clear kf lf ff)
          all_goals (refine (spec_one8 _ _ (by omega) (by omega)).mono ?_)
          all_goals (rintro e w20 ⟨y, rfl, hy1, hy2, rfl⟩)
          all_goals (go_wp2_with fail)
          all_goals (refine (spec_l01Next _ _ _ _ _ _ D.out.S (by omega) (by omega)).mono ?_)
          all_goals (rintro e w21 ⟨z, rfl, hz, hS, hg, -⟩)
          all_goals (replace O := Lib.hid (D.out.pass O.out hg))
          all_goals (replace P := Lib.hid (D.out.pass P.out hg))
          all_goals (replace OV := Lib.hid (OV.out.kept hg (passV OV.out D.out NV.out)))
          all_goals (have VS2 := Lib.hid (Nat.le_trans VS.out hg.size))
          all_goals (replace F := Lib.hid (D.out.blk F.out HF.out hg))
          all_goals (replace R := Lib.hid (R.out.grown hg (fun e => RNE.out (Option.some.inj e))))
          all_goals (replace D := Lib.hid (D.out.call hS hg))
          all_goals (clear hS hg hz hy1 hy2)
          all_goals (go_wp2_with (at_builtin; refine stopHere ?_))
          all_goals (refine goHere ?_)
          all_goals (refine ap_one (K := cI) _ ty_int64 rfl _ _ rfl (B := vb) (v := .slice AV j cV) (xs := V) rfl OV.out (z : Int) rfl rfl (by rw [HV.out]; omega) VS2.out ?_)
          all_goals (intro v1 w9 ho1 hg1 hb1 hat1)
          all_goals (replace hg1 := grown_alloc _ hg1)
          all_goals (replace O := Lib.hid (O.out.kept hg1 (apart (fun k hk => (NO.out k hk).2) (fun k hk => (OV.out.block k hk).1))))
          all_goals (replace P := Lib.hid (P.out.kept hg1 (apart (fun k hk => (NP.out k hk).2) (fun k hk => (OV.out.block k hk).1))))
          all_goals (replace F := Lib.hid (F.out.grown hg1 (fun e => by have h1 := (OV.out.block _ e.symm).1; have h2 := NFv.out; omega)))
          all_goals (replace R := Lib.hid (R.out.grown hg1 (fun e => by have h1 := (OV.out.block _ e.symm).1; have h2 := NV.out; have h3 := ZR.out; omega)))
          all_goals (replace D := Lib.hid (D.out.grown hg1 (fun k e => Nat.le_trans NV.out (OV.out.block k e).1)))
          all_goals (replace VS2 := Lib.hid (Nat.le_trans VS2.out hg1.size))
          all_goals (replace OV := Lib.hid ho1)
          all_goals (obtain ⟨A9, c9, hv9⟩ := ho1.opn)
          all_goals (rw [List.length_append, List.length_singleton, HV.out] at hv9)
          all_goals (subst hv9)
          all_goals (have HV9 : Hid ((V ++ [(z : Int)]).length = j + 1) := Lib.hid (by rw [List.length_append, HV.out]; rfl))
          all_goals (clear ho1 hg1 hb1 hat1)
          all_goals (go_wp2)
          all_goals (exact ⟨⟨j + 1, _, by go_num, by omega, HV9.out, OV.out, O.out, P.out, VS2.out, D.out, R.out, F.out⟩, by simp [intOf]; omega⟩)
        · obtain rfl : j = 6 := by omega
          clear h6 hj
          go_wp2_with fail
          refine (spec_l01Next _ _ _ _ _ 24 D.out.S (by decide) (by decide)).mono ?_
          rintro e w124 ⟨k24, rfl, -, hS, hg, -⟩
          replace OV := Lib.hid (OV.out.kept hg (passV OV.out D.out NV.out))
          replace O := Lib.hid (D.out.pass O.out hg)
          replace P := Lib.hid (D.out.pass P.out hg)
          replace R := Lib.hid (R.out.grown hg (fun e => RNE.out (Option.some.inj e)))
          replace F := Lib.hid (D.out.blk F.out HF.out hg)
          replace D := Lib.hid (D.out.call hS hg)
          clear hS hg
          cases t24 : ((k24 : Int) == 0)
          · skip
            have kr := R.out.cell
            have fr := R.out.frozen
            have lr := R.out.lt
            have kf := F.out.cell
            have lf := F.out.lt
            have ff := F.out.frozen
            have z1 := ZR.out
            go_wp2
            refine bodyPost_ret (v := .tuple #[.agg #[.int .i64 (ns.length : Int), .slice A ns.length c], .slice A2 L2.length c2, .int .i64 x, .slice AV 6 cV]) (by simp [results, Tryz.results14, go_sem, kr, fr, lr, kf, lf, ff]) rfl ⟨_, x, _, _, _, (li ns), L2, V, rfl, (by rw [li_length]; omega), hL2, hV, ?_, ?_, ?_, ?_⟩
            · exact (((O.out).ro.low (p := ⟨w.heap.size, 0, none⟩) z1 _).low (p := ⟨w.heap.size, 1, none⟩) z1 _).mono (Nat.le_of_lt z1)
            · exact (((P.out).ro.low (p := ⟨w.heap.size, 0, none⟩) z1 _).low (p := ⟨w.heap.size, 1, none⟩) z1 _).mono (Nat.le_of_lt z1)
            · exact ((((OV.out.mono NV.out)).ro.low (p := ⟨w.heap.size, 0, none⟩) z1 _).low (p := ⟨w.heap.size, 1, none⟩) z1 _).mono (Nat.le_of_lt z1)
            · exact ((below_grown HB1.out D.out.gr (Nat.le_of_lt z1) (fun k e => by have e1 : W.heap.size = k := Option.some.inj e; have := ZG.out; omega)).setCell (p := ⟨w.heap.size, 0, none⟩) (Nat.le_refl _) _).setCell (p := ⟨w.heap.size, 1, none⟩) (Nat.le_refl _) _
          · skip
            go_wp2_with fail
            have hb := below_alloc' w124 (.cells #[.int .i64 (-1), .int .i64 256] 2)
            have OL : Hid (Ow cI 2 w124.heap.size (World.alloc w124 (.cells #[.int .i64 (-1), .int .i64 256] 2)) (.slice (some ⟨w124.heap.size, 0, none⟩) 2 2) [-1, 256]) := Lib.hid (Ow.lit [-1, 256] rfl rfl (Nat.le_refl _))
            have hgl : W.heap.size < w124.heap.size := D.out.S.lt
            replace OV := Lib.hid (OV.out.below hb)
            replace O := Lib.hid (O.out.below hb)
            replace P := Lib.hid (P.out.below hb)
            replace R := Lib.hid (R.out.below hb R.out.lt)
            replace F := Lib.hid (F.out.below hb F.out.lt)
            replace D := Lib.hid (D.out.below hb)
            clear hb
            refine (spec_l01Pick _ _ _ _ _ _ [-1, 256] D.out.S OL.out.sl (.inr (fun e => by have e1 : w124.heap.size = W.heap.size := Option.some.inj e; omega)) (by simp) (by simp)).mono ?_
            rintro e w125 ⟨y, rfl, -, hS, hg, -⟩
            replace OV := Lib.hid (OV.out.kept hg (passV OV.out D.out NV.out))
            replace O := Lib.hid (D.out.pass O.out hg)
            replace P := Lib.hid (D.out.pass P.out hg)
            replace R := Lib.hid (R.out.grown hg (fun e => RNE.out (Option.some.inj e)))
            replace F := Lib.hid (D.out.blk F.out HF.out hg)
            replace D := Lib.hid (D.out.call hS hg)
            clear hS hg OL hgl
            have hmt : 1 < V.length := by omega
            obtain ⟨gv, cc, hv, gB, gl, -⟩ := OV.out.form (by omega)
            injection hv with hA hN hC
            subst hA
            subst hC
            clear hN
            obtain ⟨c2v, f2v, -, -⟩ := OV.out.at1 rfl hmt rfl
            have O9 := Lib.hid (OV.out.set1 (j := 1) (x := y) (u := .int .i64 y) rfl rfl hmt)
            have V9 : Hid ((V.set 1 y).length = 6) := Lib.hid (by rw [List.length_set]; exact hV)
            have QO := Lib.hid (O.out.far (p := ⟨gv, 1, none⟩) (fun e => by have := (NO.out gv e).2; omega) (.int .i64 y))
            have QP := Lib.hid (P.out.far (p := ⟨gv, 1, none⟩) (fun e => by have := (NP.out gv e).2; omega) (.int .i64 y))
            have QF := Lib.hid (F.out.far (p := ⟨gv, 1, none⟩) (fun e => by have e1 : fb = gv := e; have := NFv.out; omega) (.int .i64 y))
            have QR := Lib.hid (R.out.far (p := ⟨gv, 1, none⟩) (fun e => by have e1 : w.heap.size = gv := e; have := ZR.out; have := NV.out; omega) (.int .i64 y))
            have QD := Lib.hid (D.out.set (p := ⟨gv, 1, none⟩) (Nat.le_trans NV.out gB) (.int .i64 y))
            clear O P F R D OV
            have O := QO
            have P := QP
            have F := QF
            have R := QR
            have D := QD
            have OV := O9
            clear QO QP QF QR QD O9
            go_upto_region 18 with fail
            generalize World.setCell w125 _ _ = W9 at *
            clear c2v f2v hmt t24 gl
            have kr := R.out.cell
            have fr := R.out.frozen
            have lr := R.out.lt
            have kf := F.out.cell
            have lf := F.out.lt
            have ff := F.out.frozen
            have z1 := ZR.out
            go_wp2
            refine bodyPost_ret (v := .tuple #[.agg #[.int .i64 (ns.length : Int), .slice A ns.length c], .slice A2 L2.length c2, .int .i64 x, .slice (some ⟨gv, 0, none⟩) 6 cV]) (by simp [results, Tryz.results14, go_sem, kr, fr, lr, kf, lf, ff]) rfl ⟨_, x, _, _, _, (li ns), L2, (V.set 1 y), rfl, (by rw [li_length]; omega), hL2, V9.out, ?_, ?_, ?_, ?_⟩
            · exact (((O.out).ro.low (p := ⟨w.heap.size, 0, none⟩) z1 _).low (p := ⟨w.heap.size, 1, none⟩) z1 _).mono (Nat.le_of_lt z1)
            · exact (((P.out).ro.low (p := ⟨w.heap.size, 0, none⟩) z1 _).low (p := ⟨w.heap.size, 1, none⟩) z1 _).mono (Nat.le_of_lt z1)
            · exact ((((OV.out.mono NV.out)).ro.low (p := ⟨w.heap.size, 0, none⟩) z1 _).low (p := ⟨w.heap.size, 1, none⟩) z1 _).mono (Nat.le_of_lt z1)
            · exact ((below_grown HB1.out D.out.gr (Nat.le_of_lt z1) (fun k e => by have e1 : W.heap.size = k := Option.some.inj e; have := ZG.out; omega)).setCell (p := ⟨w.heap.size, 0, none⟩) (Nat.le_refl _) _).setCell (p := ⟨w.heap.size, 1, none⟩) (Nat.le_refl _) _
set_option maxRecDepth 100000 in
set_option maxHeartbeats 4000000 in
theorem spec_DrawSolveOnFrame (v : Value) (xs : List (Fin 256)) (w : World) (h : Sl cY w v xs) (hl : xs.length ≤ 4096) :
    Calls Tryz.prog 5 #[v] w fun e w' => ∃ (n x : Int) (u1 u2 u3 : Value) (L1 : List Int) (L2 : List Nd) (L3 : List Int), e = .returned (.tuple #[.agg #[.int .i64 n, u1], u2, .int .i64 x, u3]) ∧ L1.length ≤ 9 ∧ L2.length ≤ 1001 ∧ L3.length = 6 ∧ Sl cI w' u1 L1 ∧ Sl cN w' u2 L2 ∧ Sl cI w' u3 L3 ∧ Below w.heap.size w w' := by
  have hb1 := below_alloc' w (.cells #[.int .i64 0, .slice none 0 0] 26)
  have R := Lib.hid (Blk.new w 26 #[.int .i64 0, .slice none 0 0])
  have HH := Lib.hid (h.below hb1)
  have HBW := Lib.hid hb1
  clear hb1 h
  go_enter Tryz.func5, Tryz.ntmps5
  go_upto_region 1 with fail
  generalize World.alloc w _ = W at *
  go_wp2_with fail
  refine (spec_l33Framed v xs W HH.out hl).mono ?_
  rintro e w1 ⟨n, x, u1, u2, u3, L1, L2, L3, rfl, hL1, hL2, hL3, P1, P2, P3, hb⟩
  have ZR : Hid (w.heap.size < W.heap.size) := Lib.hid R.out.lt
  replace R := Lib.hid (R.out.below hb R.out.lt)
  have HB1 := Lib.hid (bthen HBW.out hb)
  clear hb HBW HH
  replace P1 := Lib.hid P1
  replace P2 := Lib.hid P2
  replace P3 := Lib.hid P3
  obtain ⟨A1, c1, rfl⟩ := P1.out.opn
  obtain ⟨A2, c2, rfl⟩ := P2.out.opn
  obtain ⟨A3, c3, rfl⟩ := P3.out.opn
  rw [hL3] at P3 ⊢
  have kr := R.out.cell
  have fr := R.out.frozen
  have lr := R.out.lt
  have z1 := ZR.out
  go_wp2
  refine bodyPost_ret (v := .tuple #[.agg #[.int .i64 n, .slice A1 L1.length c1], .slice A2 L2.length c2, .int .i64 x, .slice A3 6 c3]) (by simp [results, Tryz.results5, go_sem, kr, fr, lr]) rfl ⟨_, x, _, _, _, L1, L2, L3, rfl, hL1, hL2, hL3, ?_, ?_, ?_, ?_⟩
  · exact (((P1.out).low (p := ⟨w.heap.size, 0, none⟩) z1 _).low (p := ⟨w.heap.size, 1, none⟩) z1 _).1
  · exact (((P2.out).low (p := ⟨w.heap.size, 0, none⟩) z1 _).low (p := ⟨w.heap.size, 1, none⟩) z1 _).1
  · exact (((P3.out).low (p := ⟨w.heap.size, 0, none⟩) z1 _).low (p := ⟨w.heap.size, 1, none⟩) z1 _).1
  · exact (HB1.out.setCell (p := ⟨w.heap.size, 0, none⟩) (Nat.le_refl _) _).setCell (p := ⟨w.heap.size, 1, none⟩) (Nat.le_refl _) _
end Go.Proofs.YtebpjcbgnagjeaaGreat

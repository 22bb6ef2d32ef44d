/- The reference's drawing of Heyting algebras: l18Some (exact), l18Draw (by the shape of what is drawn). Written by gen19S.py. -/
import Derived.Test.YtgkogfjifcfkoaaGreatY47
namespace Go.Proofs.YtgkogfjifcfkoaaGreat
open Go.RowKit
set_option linter.unusedVariables false
set_option linter.unusedSimpArgs false
/-- a drawn Heyting algebra, whole -/
def Whl (B : Nat) (W : World) (e : Ending) (most : Nat) : Prop :=
  ∃ (ms : List Nat) (va : Option Addr) (ca : Nat) (vo : Option Addr) (co : Nat) (vi : Option Addr) (ci : Nat), e = .returned (.agg #[.slice va ms.length ca, .slice vo ms.length co, .slice vi ms.length ci, .int .i64 (botI ms), .int .i64 (topI ms)]) ∧ ms.length ≤ most ∧ Hx ms ∧ Bt B W (.slice va ms.length ca) (.slice vo ms.length co) (.slice vi ms.length ci) ms
set_option maxRecDepth 100000 in
set_option maxHeartbeats 8000000 in
theorem spec_l18Some (w0 : World) (v : Value) (xs : List (Fin 256)) (w : World) (g most : Nat) (S : Src 95 w0 v xs w g) (h1 : 1 ≤ most) (h30 : most ≤ 30) :
    Calls Tryz.prog 108 #[.pointer (some ⟨g, 0, none⟩), .int .i64 (most : Int)] w fun e w' => Whl w.heap.size w' e most ∧ Src 95 w0 v xs w' g ∧ w.grownBy w' (some g) := by
  have C7 : Hid (∀ X u ns, RelN ns → Sl cI X u (li ns) → Calls Tryz.prog 123 #[.agg #[.int .i64 (ns.length : Int), u]] X fun e w' => ∃ A c, e = .returned (.slice A (ups ns).length c) ∧ Below X.heap.size X w') := Lib.hid (fun X u ns hr hu => (spec_l16UpsetsX u ns X hu hr).mono fun e w' hh => by
    obtain ⟨z, rfl, oz, hb⟩ := hh
    obtain ⟨A, c, rfl⟩ := oz.opn
    exact ⟨A, c, by rw [li_length], hb⟩)
  have C8 : Hid (∀ X u ns, RelN ns → Rfl ns → (ups ns).length ≤ most → Sl cI X u (li ns) → Calls Tryz.prog 155 #[.agg #[.int .i64 (ns.length : Int), u]] X fun e w' => Whl X.heap.size w' e most ∧ Below X.heap.size X w') := Lib.hid (fun X u ns hr rf hm hu => (spec_l18Of u ns X hu hr rf (by omega)).mono fun e w' hh => by
    obtain ⟨va, ca, vo, co, vi, ci, rfl, hB, hb⟩ := hh
    rw [← uo_length] at hB
    exact ⟨⟨uo (ups ns), va, ca, vo, co, vi, ci, by rw [uo_length], by rw [uo_length]; exact hm, Hx_ups hr.2 rf (by omega), hB⟩, hb⟩)
  have C9 : Hid (∀ X k, 1 ≤ k → k ≤ most → Calls Tryz.prog 157 #[.int .i64 (k : Int)] X fun e w' => Whl X.heap.size w' e most ∧ Below X.heap.size X w') := Lib.hid (fun X k h1 hk => (spec_l18Chain k X h1 (by omega)).mono fun e w' hh => by
    obtain ⟨va, ca, vo, co, vi, ci, rfl, hB, hb⟩ := hh
    exact ⟨⟨chn k, va, ca, vo, co, vi, ci, by rw [chn_length], by rw [chn_length]; exact hk, Hx_chn h1 (by omega), by rw [chn_length]; exact hB⟩, hb⟩)
  have C10 : Hid (∀ X, Src 95 w0 v xs X g → ∀ B a o i ns, g < B → ns.length ≤ most → Hx ns → Bt B X a o i ns → Calls Tryz.prog 156 #[.pointer (some ⟨g, 0, none⟩), .agg #[a, o, i, .int .i64 (botI ns), .int .i64 (topI ns)]] X fun e w' => Whl X.heap.size w' e most ∧ Src 95 w0 v xs w' g ∧ X.grownBy w' (some g)) := Lib.hid (fun X S B a o i ns hgB hm hx hB => (spec_l18Mixed w0 v xs X g B a o i ns S hgB hB hx).mono fun e w' hh => by
    obtain ⟨ms, va, ca, vo, co, vi, ci, e1, e2, e3, e4, e5, e6⟩ := hh
    exact ⟨⟨ms, va, ca, vo, co, vi, ci, e1, by omega, e3, e4⟩, e5, e6⟩)
  have HGL := Lib.hid S.lt
  have D0 := Lib.hid ((Dg.start S).below (below_alloc' w (.cells #[.slice none 0 0, .slice none 0 0, .slice none 0 0, .int .i64 0, .int .i64 0] 26)))
  have R0 := Lib.hid (Blk.new w 26 #[.slice none 0 0, .slice none 0 0, .slice none 0 0, .int .i64 0, .int .i64 0])
  clear S
  go_enter Tryz.func108, Tryz.ntmps108
  go_upto_region 1 with fail
  generalize World.alloc w _ = W at *
  go_wp2
  go_loopw [5] (fun i wr => ∃ j : Nat, j ≤ 8 ∧ i = .int .i64 j ∧ Dg w0 v xs g w wr ∧ Blk wr w.heap.size 26 #[.slice none 0 0, .slice none 0 0, .slice none 0 0, .int .i64 0, .int .i64 0]) (fun i _ => 8 - (intOf i).toNat)
  case atStart => exact ⟨0, by decide, rfl, D0.out, R0.out⟩
  case round =>
    clear D0 R0
    obtain ⟨j, hj, rfl, hD, hR⟩ := hrel
    obtain ⟨w1, hw1⟩ : ∃ W, W = wr := ⟨_, rfl⟩
    subst hw1
    have D := Lib.hid hD
    have R := Lib.hid hR
    clear hD hR
    by_cases hlt : j < 8
    · clear C9
      go_wp2_with fail
      refine (spec_l16SomeX _ _ _ _ _ 5 D.out.S (by decide)).mono ?_
      rintro e w2 ⟨u, ns, rfl, -, hrn, hrf, O, hS, hg⟩
      have HRN := Lib.hid hrn
      have HRF := Lib.hid hrf
      replace O := Lib.hid (O.mono (show w.heap.size + 1 ≤ w1.heap.size from R.out.lt))
      replace R := Lib.hid (D.out.blk R.out (Nat.le_refl _) hg)
      replace D := Lib.hid (D.out.call hS hg)
      clear hS hg hrn hrf
      obtain ⟨A4, c4, rfl⟩ := O.out.opn
      rw [li_length] at O ⊢
      go_upto_region 5 with fail
      have F0 := Lib.hid (Blk.new w2 42 #[.int .i64 (ns.length : Int), .slice A4 ns.length c4])
      have hb := below_alloc' w2 (.cells #[.int .i64 (ns.length : Int), .slice A4 ns.length c4] 42)
      replace O := Lib.hid (O.out.below hb)
      have ZF : Hid (w.heap.size < w2.heap.size) := Lib.hid R.out.lt
      replace R := Lib.hid (R.out.below hb R.out.lt)
      replace D := Lib.hid (D.out.below hb)
      clear hb
      obtain ⟨fb, hfb⟩ : ∃ b, w2.heap.size = b := ⟨_, rfl⟩
      rw [hfb] at F0 ZF ⊢
      generalize hW3 : World.alloc w2 _ = w3 at *
      clear hW3 hfb
      go_wp2_with fail
      refine (spec_l01Next _ _ _ _ _ 2 D.out.S (by decide) (by decide)).mono ?_
      rintro e w4 ⟨k2, rfl, hk2, hS, hg, -⟩
      replace O := Lib.hid (D.out.passB O.out (Nat.le_succ _) hg)
      have F := Lib.hid (D.out.blk F0.out (show w.heap.size ≤ fb by have := ZF.out; omega) hg)
      replace R := Lib.hid (D.out.blk R.out (Nat.le_refl _) hg)
      replace D := Lib.hid (D.out.call hS hg)
      clear hS hg hk2 F0
      cases e2 : ((k2 : Int) == 0)
      · skip
        have kf := F.out.cell
        have lf := F.out.lt
        obtain ⟨nu, hnu⟩ : ∃ nu, (ups ns).length = nu := ⟨_, rfl⟩
        have C7x := Lib.hid (C7.out w4 _ ns HRN.out O.out.sl)
        have C8x := Lib.hid (fun X hm hu => C8.out X (.slice A4 ns.length c4) ns HRN.out HRF.out hm hu)
        rw [hnu] at C7x C8x
        clear hnu C7 C8
        obtain ⟨nl, hnl⟩ : ∃ nl, ns.length = nl := ⟨_, rfl⟩
        rw [hnl] at C7x C8x O F kf
        clear hnl
        go_wp2_with fail
        refine C7x.out.mono ?_
        rintro e w6 ⟨A7, c7, rfl, hb⟩
        clear kf lf C7x
        replace O := Lib.hid (O.out.below hb)
        replace F := Lib.hid (F.out.below hb F.out.lt)
        replace R := Lib.hid (R.out.below hb R.out.lt)
        replace D := Lib.hid (D.out.below hb)
        clear hb
        have kf := F.out.cell
        have lf := F.out.lt
        by_cases hle : nu ≤ most
        · have hle2 : (nu : Int) ≤ (most : Int) := by omega
          go_wp2_with fail
          refine (C8x.out _ hle O.out.sl).mono ?_
          rintro e w7 ⟨⟨ms, xa, ya, xo, yo, xi, yi, rfl, hmm, hxm, bq⟩, hb⟩
          clear kf lf C8x hle2 hle
          replace bq := bq.mono (show w.heap.size + 1 ≤ w6.heap.size from R.out.lt)
          replace R := Lib.hid (R.out.below hb R.out.lt)
          replace D := Lib.hid (D.out.below hb)
          clear hb O F
          have C10x := Lib.hid (fun X hS hB => C10.out X hS (w.heap.size + 1) (.slice xa ms.length ya) (.slice xo ms.length yo) (.slice xi ms.length yi) ms (by have := HGL.out; omega) hmm hxm hB)
          have HMM := Lib.hid hmm
          have HXM := Lib.hid hxm
          obtain ⟨bm, hbm⟩ : ∃ bm, botI ms = bm := ⟨_, rfl⟩
          obtain ⟨tm, htm⟩ : ∃ tm, topI ms = tm := ⟨_, rfl⟩
          rw [hbm, htm]
          rw [hbm, htm] at C10x
          have HBM := Lib.hid hbm
          have HTM := Lib.hid htm
          obtain ⟨nm, hnm⟩ : ∃ nm, ms.length = nm := ⟨_, rfl⟩
          rw [hnm] at bq C10x ⊢
          have HNM := Lib.hid hnm
          clear hbm htm hnm hmm hxm
          have BQ := Lib.hid bq
          clear bq C10
          have ZS7 := D.out.size
          go_upto_region 9 with fail
          have Q := Lib.hid (Blk.new w7 26 #[.slice xa nm ya, .slice xo nm yo, .slice xi nm yi, .int .i64 bm, .int .i64 tm])
          have hb := below_alloc' w7 (.cells #[.slice xa nm ya, .slice xo nm yo, .slice xi nm yi, .int .i64 bm, .int .i64 tm] 26)
          replace R := Lib.hid (R.out.below hb R.out.lt)
          replace D := Lib.hid (D.out.below hb)
          replace BQ := Lib.hid (BQ.out.below hb)
          clear hb
          have ZQ : Hid (w.heap.size ≤ w7.heap.size) := Lib.hid (ZS7)
          obtain ⟨qb, hqb⟩ : ∃ b, w7.heap.size = b := ⟨_, rfl⟩
          rw [hqb] at Q ZQ ⊢
          generalize hW8 : World.alloc w7 _ = w8 at *
          clear hW8 hqb ZS7
          go_wp2_with fail
          refine (spec_l01Next _ _ _ _ _ 3 D.out.S (by decide) (by decide)).mono ?_
          rintro e w9 ⟨k3, rfl, hk3, hS, hg, -⟩
          replace BQ := Lib.hid (BQ.out.kept hg (by have := HGL.out; omega))
          replace Q := Lib.hid (D.out.blk Q.out ZQ.out hg)
          replace R := Lib.hid (D.out.blk R.out (Nat.le_refl _) hg)
          replace D := Lib.hid (D.out.call hS hg)
          clear hS hg hk3
          have kq := Q.out.cell
          have lq := Q.out.lt
          have q0 : w9.cell? ⟨qb, 0, none⟩ = some (.slice xa nm ya) := kq 0
          have q1 : w9.cell? ⟨qb, 1, none⟩ = some (.slice xo nm yo) := kq 1
          have q2 : w9.cell? ⟨qb, 2, none⟩ = some (.slice xi nm yi) := kq 2
          have q3 : w9.cell? ⟨qb, 3, none⟩ = some (.int .i64 bm) := kq 3
          have q4 : w9.cell? ⟨qb, 4, none⟩ = some (.int .i64 tm) := kq 4
          clear kq
          cases e3 : ((k3 : Int) == 0)
          · clear C10x
            have kr := R.out.cell
            have fr := R.out.frozen
            have lr := R.out.lt
            go_wp2
            refine bodyPost_ret (v := .agg #[.slice xa nm ya, .slice xo nm yo, .slice xi nm yi, .int .i64 bm, .int .i64 tm]) (by simp [results, Tryz.results108, go_sem, kr, fr, lr]) rfl ⟨⟨ms, xa, ya, xo, yo, xi, yi, by rw [HNM.out, HBM.out, HTM.out], HMM.out, HXM.out, ?_⟩, ?_, ?_⟩
            · rw [HNM.out]
              exact (Bt.setBelow (Bt.setBelow (Bt.setBelow (Bt.setBelow (Bt.setBelow BQ.out (p := ⟨w.heap.size, 0, none⟩) (Nat.lt_succ_self _) (.slice xa nm ya)) (p := ⟨w.heap.size, 1, none⟩) (Nat.lt_succ_self _) (.slice xo nm yo)) (p := ⟨w.heap.size, 2, none⟩) (Nat.lt_succ_self _) (.slice xi nm yi)) (p := ⟨w.heap.size, 3, none⟩) (Nat.lt_succ_self _) (.int .i64 bm)) (p := ⟨w.heap.size, 4, none⟩) (Nat.lt_succ_self _) (.int .i64 tm)).mono (Nat.le_succ _)
            · exact (Dg.set (Dg.set (Dg.set (Dg.set (Dg.set D.out (p := ⟨w.heap.size, 0, none⟩) (Nat.le_refl _) (.slice xa nm ya)) (p := ⟨w.heap.size, 1, none⟩) (Nat.le_refl _) (.slice xo nm yo)) (p := ⟨w.heap.size, 2, none⟩) (Nat.le_refl _) (.slice xi nm yi)) (p := ⟨w.heap.size, 3, none⟩) (Nat.le_refl _) (.int .i64 bm)) (p := ⟨w.heap.size, 4, none⟩) (Nat.le_refl _) (.int .i64 tm)).S
            · exact (Dg.set (Dg.set (Dg.set (Dg.set (Dg.set D.out (p := ⟨w.heap.size, 0, none⟩) (Nat.le_refl _) (.slice xa nm ya)) (p := ⟨w.heap.size, 1, none⟩) (Nat.le_refl _) (.slice xo nm yo)) (p := ⟨w.heap.size, 2, none⟩) (Nat.le_refl _) (.slice xi nm yi)) (p := ⟨w.heap.size, 3, none⟩) (Nat.le_refl _) (.int .i64 bm)) (p := ⟨w.heap.size, 4, none⟩) (Nat.le_refl _) (.int .i64 tm)).gr
          · go_wp2_with fail
            refine (C10x.out _ D.out.S BQ.out).mono ?_
            clear HMM HXM HBM HTM HNM q0 q1 q2 q3 q4 lq BQ Q
            rintro e w10 ⟨⟨ms, xa, ya, xo, yo, xi, yi, rfl, hmm, hxm, bq⟩, hS, hg⟩
            clear C10x
            replace bq := bq.mono (show w.heap.size + 1 ≤ w9.heap.size from R.out.lt)
            replace R := Lib.hid (D.out.blk R.out (Nat.le_refl _) hg)
            replace D := Lib.hid (D.out.call hS hg)
            clear hS hg
            have HMM := Lib.hid hmm
            have HXM := Lib.hid hxm
            obtain ⟨bm2, hbm⟩ : ∃ bm, botI ms = bm := ⟨_, rfl⟩
            obtain ⟨tm2, htm⟩ : ∃ tm, topI ms = tm := ⟨_, rfl⟩
            rw [hbm, htm]
            have HBM := Lib.hid hbm
            have HTM := Lib.hid htm
            obtain ⟨nm2, hnm⟩ : ∃ nm, ms.length = nm := ⟨_, rfl⟩
            rw [hnm] at bq ⊢
            have HNM := Lib.hid hnm
            clear hbm htm hnm hmm hxm
            have BQ := Lib.hid bq
            clear bq
            have kr := R.out.cell
            have fr := R.out.frozen
            have lr := R.out.lt
            go_wp2
            refine bodyPost_ret (v := .agg #[.slice xa nm2 ya, .slice xo nm2 yo, .slice xi nm2 yi, .int .i64 bm2, .int .i64 tm2]) (by simp [results, Tryz.results108, go_sem, kr, fr, lr]) rfl ⟨⟨ms, xa, ya, xo, yo, xi, yi, by rw [HNM.out, HBM.out, HTM.out], HMM.out, HXM.out, ?_⟩, ?_, ?_⟩
            · rw [HNM.out]
              exact (Bt.setBelow (Bt.setBelow (Bt.setBelow (Bt.setBelow (Bt.setBelow BQ.out (p := ⟨w.heap.size, 0, none⟩) (Nat.lt_succ_self _) (.slice xa nm2 ya)) (p := ⟨w.heap.size, 1, none⟩) (Nat.lt_succ_self _) (.slice xo nm2 yo)) (p := ⟨w.heap.size, 2, none⟩) (Nat.lt_succ_self _) (.slice xi nm2 yi)) (p := ⟨w.heap.size, 3, none⟩) (Nat.lt_succ_self _) (.int .i64 bm2)) (p := ⟨w.heap.size, 4, none⟩) (Nat.lt_succ_self _) (.int .i64 tm2)).mono (Nat.le_succ _)
            · exact (Dg.set (Dg.set (Dg.set (Dg.set (Dg.set D.out (p := ⟨w.heap.size, 0, none⟩) (Nat.le_refl _) (.slice xa nm2 ya)) (p := ⟨w.heap.size, 1, none⟩) (Nat.le_refl _) (.slice xo nm2 yo)) (p := ⟨w.heap.size, 2, none⟩) (Nat.le_refl _) (.slice xi nm2 yi)) (p := ⟨w.heap.size, 3, none⟩) (Nat.le_refl _) (.int .i64 bm2)) (p := ⟨w.heap.size, 4, none⟩) (Nat.le_refl _) (.int .i64 tm2)).S
            · exact (Dg.set (Dg.set (Dg.set (Dg.set (Dg.set D.out (p := ⟨w.heap.size, 0, none⟩) (Nat.le_refl _) (.slice xa nm2 ya)) (p := ⟨w.heap.size, 1, none⟩) (Nat.le_refl _) (.slice xo nm2 yo)) (p := ⟨w.heap.size, 2, none⟩) (Nat.le_refl _) (.slice xi nm2 yi)) (p := ⟨w.heap.size, 3, none⟩) (Nat.le_refl _) (.int .i64 bm2)) (p := ⟨w.heap.size, 4, none⟩) (Nat.le_refl _) (.int .i64 tm2)).gr
        · have hle2 : ¬ (nu : Int) ≤ (most : Int) := by omega
          clear kf lf hle C8x
          go_wp2
          exact ⟨⟨j + 1, by omega, by go_num, D.out, R.out⟩, by simp [intOf]; omega⟩
      · clear O HRN HRF
        have kf := F.out.cell
        have ff := F.out.frozen
        have lf := F.out.lt
        go_wp2_with fail
        refine (spec_l16RootedX _ _ _ _ _ 5 D.out.S (by decide) (by decide)).mono ?_
        clear kf ff lf
        rintro e w5 ⟨u, ns', rfl, -, hrn, hrf, O, hS, hg⟩
        have HRN := Lib.hid hrn
        have HRF := Lib.hid hrf
        replace O := Lib.hid (O.mono (show fb + 1 ≤ w4.heap.size from F.out.lt))
        replace R := Lib.hid (D.out.blk R.out (Nat.le_refl _) hg)
        replace F := Lib.hid (D.out.blk F.out (show w.heap.size ≤ fb by have := ZF.out; omega) hg)
        replace D := Lib.hid (D.out.call hS hg)
        clear hS hg hrn hrf
        obtain ⟨A5, c5, rfl⟩ := O.out.opn
        rw [li_length] at O ⊢
        have kf := F.out.cell
        have ff := F.out.frozen
        have lf := F.out.lt
        go_upto_region 7 with fail
        replace O := Lib.hid ((O.out.setBelow (p := ⟨fb, 0, none⟩) (Nat.lt_succ_self _) (.int .i64 (ns'.length : Int))).setBelow (p := ⟨fb, 1, none⟩) (Nat.lt_succ_self _) (.slice A5 ns'.length c5))
        replace R := Lib.hid ((R.out.far (p := ⟨fb, 0, none⟩) (Nat.ne_of_lt ZF.out) (.int .i64 (ns'.length : Int))).far (p := ⟨fb, 1, none⟩) (Nat.ne_of_lt ZF.out) (.slice A5 ns'.length c5))
        replace D := Lib.hid ((D.out.set (p := ⟨fb, 0, none⟩) (Nat.le_of_lt ZF.out) (.int .i64 (ns'.length : Int))).set (p := ⟨fb, 1, none⟩) (Nat.le_of_lt ZF.out) (.slice A5 ns'.length c5))
        replace F : Hid (Blk ((w5.setCell ⟨fb, 0, none⟩ (.int .i64 (ns'.length : Int))).setCell ⟨fb, 1, none⟩ (.slice A5 ns'.length c5)) fb 42 #[.int .i64 (ns'.length : Int), .slice A5 ns'.length c5]) := Lib.hid ((F.out.set_ 0 (.int .i64 (ns'.length : Int))).set_ 1 (.slice A5 ns'.length c5))
        clear kf ff lf
        generalize World.setCell (World.setCell w5 _ _) _ _ = w55 at *
        have kf := F.out.cell
        have lf := F.out.lt
        obtain ⟨nu, hnu⟩ : ∃ nu, (ups ns').length = nu := ⟨_, rfl⟩
        have C7x := Lib.hid (C7.out w55 _ ns' HRN.out O.out.sl)
        have C8x := Lib.hid (fun X hm hu => C8.out X (.slice A5 ns'.length c5) ns' HRN.out HRF.out hm hu)
        rw [hnu] at C7x C8x
        clear hnu C7 C8
        obtain ⟨nl, hnl⟩ : ∃ nl, ns'.length = nl := ⟨_, rfl⟩
        rw [hnl] at C7x C8x O F kf
        clear hnl
        go_wp2_with fail
        refine C7x.out.mono ?_
        rintro e w6 ⟨A7, c7, rfl, hb⟩
        clear kf lf C7x
        replace O := Lib.hid (O.out.below hb)
        replace F := Lib.hid (F.out.below hb F.out.lt)
        replace R := Lib.hid (R.out.below hb R.out.lt)
        replace D := Lib.hid (D.out.below hb)
        clear hb
        have kf := F.out.cell
        have lf := F.out.lt
        by_cases hle : nu ≤ most
        · have hle2 : (nu : Int) ≤ (most : Int) := by omega
          go_wp2_with fail
          refine (C8x.out _ hle O.out.sl).mono ?_
          rintro e w7 ⟨⟨ms, xa, ya, xo, yo, xi, yi, rfl, hmm, hxm, bq⟩, hb⟩
          clear kf lf C8x hle2 hle
          replace bq := bq.mono (show w.heap.size + 1 ≤ w6.heap.size from R.out.lt)
          replace R := Lib.hid (R.out.below hb R.out.lt)
          replace D := Lib.hid (D.out.below hb)
          clear hb O F
          have C10x := Lib.hid (fun X hS hB => C10.out X hS (w.heap.size + 1) (.slice xa ms.length ya) (.slice xo ms.length yo) (.slice xi ms.length yi) ms (by have := HGL.out; omega) hmm hxm hB)
          have HMM := Lib.hid hmm
          have HXM := Lib.hid hxm
          obtain ⟨bm, hbm⟩ : ∃ bm, botI ms = bm := ⟨_, rfl⟩
          obtain ⟨tm, htm⟩ : ∃ tm, topI ms = tm := ⟨_, rfl⟩
          rw [hbm, htm]
          rw [hbm, htm] at C10x
          have HBM := Lib.hid hbm
          have HTM := Lib.hid htm
          obtain ⟨nm, hnm⟩ : ∃ nm, ms.length = nm := ⟨_, rfl⟩
          rw [hnm] at bq C10x ⊢
          have HNM := Lib.hid hnm
          clear hbm htm hnm hmm hxm
          have BQ := Lib.hid bq
          clear bq C10
          have ZS7 := D.out.size
          go_upto_region 9 with fail
          have Q := Lib.hid (Blk.new w7 26 #[.slice xa nm ya, .slice xo nm yo, .slice xi nm yi, .int .i64 bm, .int .i64 tm])
          have hb := below_alloc' w7 (.cells #[.slice xa nm ya, .slice xo nm yo, .slice xi nm yi, .int .i64 bm, .int .i64 tm] 26)
          replace R := Lib.hid (R.out.below hb R.out.lt)
          replace D := Lib.hid (D.out.below hb)
          replace BQ := Lib.hid (BQ.out.below hb)
          clear hb
          have ZQ : Hid (w.heap.size ≤ w7.heap.size) := Lib.hid (ZS7)
          obtain ⟨qb, hqb⟩ : ∃ b, w7.heap.size = b := ⟨_, rfl⟩
          rw [hqb] at Q ZQ ⊢
          generalize hW8 : World.alloc w7 _ = w8 at *
          clear hW8 hqb ZS7
          go_wp2_with fail
          refine (spec_l01Next _ _ _ _ _ 3 D.out.S (by decide) (by decide)).mono ?_
          rintro e w9 ⟨k3, rfl, hk3, hS, hg, -⟩
          replace BQ := Lib.hid (BQ.out.kept hg (by have := HGL.out; omega))
          replace Q := Lib.hid (D.out.blk Q.out ZQ.out hg)
          replace R := Lib.hid (D.out.blk R.out (Nat.le_refl _) hg)
          replace D := Lib.hid (D.out.call hS hg)
          clear hS hg hk3
          have kq := Q.out.cell
          have lq := Q.out.lt
          have q0 : w9.cell? ⟨qb, 0, none⟩ = some (.slice xa nm ya) := kq 0
          have q1 : w9.cell? ⟨qb, 1, none⟩ = some (.slice xo nm yo) := kq 1
          have q2 : w9.cell? ⟨qb, 2, none⟩ = some (.slice xi nm yi) := kq 2
          have q3 : w9.cell? ⟨qb, 3, none⟩ = some (.int .i64 bm) := kq 3
          have q4 : w9.cell? ⟨qb, 4, none⟩ = some (.int .i64 tm) := kq 4
          clear kq
          cases e3 : ((k3 : Int) == 0)
          · clear C10x
            have kr := R.out.cell
            have fr := R.out.frozen
            have lr := R.out.lt
            go_wp2
            refine bodyPost_ret (v := .agg #[.slice xa nm ya, .slice xo nm yo, .slice xi nm yi, .int .i64 bm, .int .i64 tm]) (by simp [results, Tryz.results108, go_sem, kr, fr, lr]) rfl ⟨⟨ms, xa, ya, xo, yo, xi, yi, by rw [HNM.out, HBM.out, HTM.out], HMM.out, HXM.out, ?_⟩, ?_, ?_⟩
            · rw [HNM.out]
              exact (Bt.setBelow (Bt.setBelow (Bt.setBelow (Bt.setBelow (Bt.setBelow BQ.out (p := ⟨w.heap.size, 0, none⟩) (Nat.lt_succ_self _) (.slice xa nm ya)) (p := ⟨w.heap.size, 1, none⟩) (Nat.lt_succ_self _) (.slice xo nm yo)) (p := ⟨w.heap.size, 2, none⟩) (Nat.lt_succ_self _) (.slice xi nm yi)) (p := ⟨w.heap.size, 3, none⟩) (Nat.lt_succ_self _) (.int .i64 bm)) (p := ⟨w.heap.size, 4, none⟩) (Nat.lt_succ_self _) (.int .i64 tm)).mono (Nat.le_succ _)
            · exact (Dg.set (Dg.set (Dg.set (Dg.set (Dg.set D.out (p := ⟨w.heap.size, 0, none⟩) (Nat.le_refl _) (.slice xa nm ya)) (p := ⟨w.heap.size, 1, none⟩) (Nat.le_refl _) (.slice xo nm yo)) (p := ⟨w.heap.size, 2, none⟩) (Nat.le_refl _) (.slice xi nm yi)) (p := ⟨w.heap.size, 3, none⟩) (Nat.le_refl _) (.int .i64 bm)) (p := ⟨w.heap.size, 4, none⟩) (Nat.le_refl _) (.int .i64 tm)).S
            · exact (Dg.set (Dg.set (Dg.set (Dg.set (Dg.set D.out (p := ⟨w.heap.size, 0, none⟩) (Nat.le_refl _) (.slice xa nm ya)) (p := ⟨w.heap.size, 1, none⟩) (Nat.le_refl _) (.slice xo nm yo)) (p := ⟨w.heap.size, 2, none⟩) (Nat.le_refl _) (.slice xi nm yi)) (p := ⟨w.heap.size, 3, none⟩) (Nat.le_refl _) (.int .i64 bm)) (p := ⟨w.heap.size, 4, none⟩) (Nat.le_refl _) (.int .i64 tm)).gr
          · go_wp2_with fail
            refine (C10x.out _ D.out.S BQ.out).mono ?_
            clear HMM HXM HBM HTM HNM q0 q1 q2 q3 q4 lq BQ Q
            rintro e w10 ⟨⟨ms, xa, ya, xo, yo, xi, yi, rfl, hmm, hxm, bq⟩, hS, hg⟩
            clear C10x
            replace bq := bq.mono (show w.heap.size + 1 ≤ w9.heap.size from R.out.lt)
            replace R := Lib.hid (D.out.blk R.out (Nat.le_refl _) hg)
            replace D := Lib.hid (D.out.call hS hg)
            clear hS hg
            have HMM := Lib.hid hmm
            have HXM := Lib.hid hxm
            obtain ⟨bm2, hbm⟩ : ∃ bm, botI ms = bm := ⟨_, rfl⟩
            obtain ⟨tm2, htm⟩ : ∃ tm, topI ms = tm := ⟨_, rfl⟩
            rw [hbm, htm]
            have HBM := Lib.hid hbm
            have HTM := Lib.hid htm
            obtain ⟨nm2, hnm⟩ : ∃ nm, ms.length = nm := ⟨_, rfl⟩
            rw [hnm] at bq ⊢
            have HNM := Lib.hid hnm
            clear hbm htm hnm hmm hxm
            have BQ := Lib.hid bq
            clear bq
            have kr := R.out.cell
            have fr := R.out.frozen
            have lr := R.out.lt
            go_wp2
            refine bodyPost_ret (v := .agg #[.slice xa nm2 ya, .slice xo nm2 yo, .slice xi nm2 yi, .int .i64 bm2, .int .i64 tm2]) (by simp [results, Tryz.results108, go_sem, kr, fr, lr]) rfl ⟨⟨ms, xa, ya, xo, yo, xi, yi, by rw [HNM.out, HBM.out, HTM.out], HMM.out, HXM.out, ?_⟩, ?_, ?_⟩
            · rw [HNM.out]
              exact (Bt.setBelow (Bt.setBelow (Bt.setBelow (Bt.setBelow (Bt.setBelow BQ.out (p := ⟨w.heap.size, 0, none⟩) (Nat.lt_succ_self _) (.slice xa nm2 ya)) (p := ⟨w.heap.size, 1, none⟩) (Nat.lt_succ_self _) (.slice xo nm2 yo)) (p := ⟨w.heap.size, 2, none⟩) (Nat.lt_succ_self _) (.slice xi nm2 yi)) (p := ⟨w.heap.size, 3, none⟩) (Nat.lt_succ_self _) (.int .i64 bm2)) (p := ⟨w.heap.size, 4, none⟩) (Nat.lt_succ_self _) (.int .i64 tm2)).mono (Nat.le_succ _)
            · exact (Dg.set (Dg.set (Dg.set (Dg.set (Dg.set D.out (p := ⟨w.heap.size, 0, none⟩) (Nat.le_refl _) (.slice xa nm2 ya)) (p := ⟨w.heap.size, 1, none⟩) (Nat.le_refl _) (.slice xo nm2 yo)) (p := ⟨w.heap.size, 2, none⟩) (Nat.le_refl _) (.slice xi nm2 yi)) (p := ⟨w.heap.size, 3, none⟩) (Nat.le_refl _) (.int .i64 bm2)) (p := ⟨w.heap.size, 4, none⟩) (Nat.le_refl _) (.int .i64 tm2)).S
            · exact (Dg.set (Dg.set (Dg.set (Dg.set (Dg.set D.out (p := ⟨w.heap.size, 0, none⟩) (Nat.le_refl _) (.slice xa nm2 ya)) (p := ⟨w.heap.size, 1, none⟩) (Nat.le_refl _) (.slice xo nm2 yo)) (p := ⟨w.heap.size, 2, none⟩) (Nat.le_refl _) (.slice xi nm2 yi)) (p := ⟨w.heap.size, 3, none⟩) (Nat.le_refl _) (.int .i64 bm2)) (p := ⟨w.heap.size, 4, none⟩) (Nat.le_refl _) (.int .i64 tm2)).gr
        · have hle2 : ¬ (nu : Int) ≤ (most : Int) := by omega
          clear kf lf hle C8x
          go_wp2
          exact ⟨⟨j + 1, by omega, by go_num, D.out, R.out⟩, by simp [intOf]; omega⟩
    · obtain rfl : j = 8 := by omega
      clear C7 C8 C10
      go_wp2_with fail
      refine (spec_l01Next _ _ _ _ _ (most : Int) D.out.S (by omega) (by omega)).mono ?_
      rintro e w2 ⟨k3, rfl, hk3, hS, hg, -⟩
      replace R := Lib.hid (D.out.blk R.out (Nat.le_refl _) hg)
      replace D := Lib.hid (D.out.call hS hg)
      clear hS hg
      have hk4 : k3 + 1 ≤ most := by omega
      have C9x := Lib.hid (C9.out w2 (1 + k3) (by omega) (by omega))
      rw [show (((1 + k3 : Nat) : Int)) = 1 + (k3 : Int) by omega] at C9x
      clear C9 hk4
      go_wp2_with fail
      refine C9x.out.mono ?_
      rintro e w7 ⟨⟨ms, xa, ya, xo, yo, xi, yi, rfl, hmm, hxm, bq⟩, hb⟩
      clear C9x hk3
      replace bq := bq.mono (show w.heap.size + 1 ≤ w2.heap.size from R.out.lt)
      replace R := Lib.hid (R.out.below hb R.out.lt)
      replace D := Lib.hid (D.out.below hb)
      clear hb
      have HMM := Lib.hid hmm
      have HXM := Lib.hid hxm
      obtain ⟨bm, hbm⟩ : ∃ bm, botI ms = bm := ⟨_, rfl⟩
      obtain ⟨tm, htm⟩ : ∃ tm, topI ms = tm := ⟨_, rfl⟩
      rw [hbm, htm]
      have HBM := Lib.hid hbm
      have HTM := Lib.hid htm
      obtain ⟨nm, hnm⟩ : ∃ nm, ms.length = nm := ⟨_, rfl⟩
      rw [hnm] at bq ⊢
      have HNM := Lib.hid hnm
      clear hbm htm hnm hmm hxm
      have BQ := Lib.hid bq
      clear bq
      have kr := R.out.cell
      have fr := R.out.frozen
      have lr := R.out.lt
      go_wp2
      refine bodyPost_ret (v := .agg #[.slice xa nm ya, .slice xo nm yo, .slice xi nm yi, .int .i64 bm, .int .i64 tm]) (by simp [results, Tryz.results108, go_sem, kr, fr, lr]) rfl ⟨⟨ms, xa, ya, xo, yo, xi, yi, by rw [HNM.out, HBM.out, HTM.out], HMM.out, HXM.out, ?_⟩, ?_, ?_⟩
      · rw [HNM.out]
        exact (Bt.setBelow (Bt.setBelow (Bt.setBelow (Bt.setBelow (Bt.setBelow BQ.out (p := ⟨w.heap.size, 0, none⟩) (Nat.lt_succ_self _) (.slice xa nm ya)) (p := ⟨w.heap.size, 1, none⟩) (Nat.lt_succ_self _) (.slice xo nm yo)) (p := ⟨w.heap.size, 2, none⟩) (Nat.lt_succ_self _) (.slice xi nm yi)) (p := ⟨w.heap.size, 3, none⟩) (Nat.lt_succ_self _) (.int .i64 bm)) (p := ⟨w.heap.size, 4, none⟩) (Nat.lt_succ_self _) (.int .i64 tm)).mono (Nat.le_succ _)
      · exact (Dg.set (Dg.set (Dg.set (Dg.set (Dg.set D.out (p := ⟨w.heap.size, 0, none⟩) (Nat.le_refl _) (.slice xa nm ya)) (p := ⟨w.heap.size, 1, none⟩) (Nat.le_refl _) (.slice xo nm yo)) (p := ⟨w.heap.size, 2, none⟩) (Nat.le_refl _) (.slice xi nm yi)) (p := ⟨w.heap.size, 3, none⟩) (Nat.le_refl _) (.int .i64 bm)) (p := ⟨w.heap.size, 4, none⟩) (Nat.le_refl _) (.int .i64 tm)).S
      · exact (Dg.set (Dg.set (Dg.set (Dg.set (Dg.set D.out (p := ⟨w.heap.size, 0, none⟩) (Nat.le_refl _) (.slice xa nm ya)) (p := ⟨w.heap.size, 1, none⟩) (Nat.le_refl _) (.slice xo nm yo)) (p := ⟨w.heap.size, 2, none⟩) (Nat.le_refl _) (.slice xi nm yi)) (p := ⟨w.heap.size, 3, none⟩) (Nat.le_refl _) (.int .i64 bm)) (p := ⟨w.heap.size, 4, none⟩) (Nat.le_refl _) (.int .i64 tm)).gr
end Go.Proofs.YtgkogfjifcfkoaaGreat

/- The reference's drawing of a Heyting algebra and a set of its elements, by the shape of what is drawn: l18Draw, l19Mask, l19Place, DrawQuotientAlgebra. Written by gen19U.py. -/
import Derived.Test.YtgkogfjifcfkoaaGreatY48
import Derived.Test.YtgkogfjifcfkoaaGreatY49
namespace Go.Proofs.YtgkogfjifcfkoaaGreat
open Go.RowKit
set_option linter.unusedVariables false
set_option linter.unusedSimpArgs false
/-- a drawn algebra, perhaps spoiled -/
def Whd (B : Nat) (W : World) (e : Ending) (most : Nat) : Prop :=
  ∃ (a o i : Value) (b t : Int) (A O I : List (List Int)), e = .returned (.agg #[a, o, i, .int .i64 b, .int .i64 t]) ∧ 1 ≤ A.length ∧ A.length ≤ most ∧ Dw B W a o i A O I
set_option maxRecDepth 100000 in
set_option maxHeartbeats 4000000 in
theorem spec_l18Draw (w0 : World) (v : Value) (xs : List (Fin 256)) (w : World) (g most : Nat) (S : Src 95 w0 v xs w g) (h1 : 1 ≤ most) (h30 : most ≤ 30) :
    Calls Tryz.prog 67 #[.pointer (some ⟨g, 0, none⟩), .int .i64 (most : Int)] w fun e w' => Whd w.heap.size w' e most ∧ Src 95 w0 v xs w' g ∧ w.grownBy w' (some g) := by
  have HGL := Lib.hid S.lt
  have D := Lib.hid ((Dg.start S).below (below_alloc' w (.cells #[.slice none 0 0, .slice none 0 0, .slice none 0 0, .int .i64 0, .int .i64 0] 26)))
  have R := Lib.hid (Blk.new w 26 #[.slice none 0 0, .slice none 0 0, .slice none 0 0, .int .i64 0, .int .i64 0])
  clear S
  go_enter Tryz.func67, Tryz.ntmps67
  go_upto_region 1 with fail
  generalize World.alloc w _ = W at *
  go_wp2_with fail
  refine (spec_l18Some w0 v xs W g most D.out.S h1 h30).mono ?_
  rintro e w1 ⟨⟨ms, xa, ya, xo, yo, xi, yi, rfl, hmm, hxm, bq⟩, hS, hg⟩
  replace bq := bq.mono (show w.heap.size + 1 ≤ W.heap.size from R.out.lt)
  replace R := Lib.hid (D.out.blk R.out (Nat.le_refl _) hg)
  replace D := Lib.hid (D.out.call hS hg)
  clear hS hg
  have hms30 : ms.length ≤ 30 := by omega
  have CB : Hid (∀ X, Src 95 w0 v xs X g → w.heap.size + 1 ≤ X.heap.size → Bt (w.heap.size + 1) X (.slice xa ms.length ya) (.slice xo ms.length yo) (.slice xi ms.length yi) ms → Calls Tryz.prog 109 #[.pointer (some ⟨g, 0, none⟩), .agg #[.slice xa ms.length ya, .slice xo ms.length yo, .slice xi ms.length yi, .int .i64 (botI ms), .int .i64 (topI ms)]] X fun e w' => ∃ a' o' i' b' t' A O I, e = .returned (.agg #[a', o', i', .int .i64 b', .int .i64 t']) ∧ A.length = ms.length ∧ Dw (w.heap.size + 1) w' a' o' i' A O I ∧ Src 95 w0 v xs w' g ∧ X.grownBy w' (some g)) := Lib.hid (fun X hS hX hB => spec_l18Bend w0 v xs X g (w.heap.size + 1) _ _ _ ms hS (by have := HGL.out; omega) hX hB hxm.n1 hms30)
  have DB : Hid (∀ X, Bt (w.heap.size + 1) X (.slice xa ms.length ya) (.slice xo ms.length yo) (.slice xi ms.length yi) ms → ∃ A O I : List (List Int), A.length = ms.length ∧ Dw (w.heap.size + 1) X (.slice xa ms.length ya) (.slice xo ms.length yo) (.slice xi ms.length yi) A O I) := Lib.hid (fun X hX => ⟨_, _, _, tabI_length _ _ _, hX.dw hms30⟩)
  have HM1 := Lib.hid hxm.n1
  have HMM := Lib.hid hmm
  obtain ⟨bm, hbm⟩ : ∃ bm, botI ms = bm := ⟨_, rfl⟩
  obtain ⟨tm, htm⟩ : ∃ tm, topI ms = tm := ⟨_, rfl⟩
  rw [hbm, htm] at CB ⊢
  obtain ⟨nm, hnm⟩ : ∃ nm, ms.length = nm := ⟨_, rfl⟩
  rw [hnm] at bq CB DB HM1 HMM ⊢
  have BQ := Lib.hid bq
  clear hbm htm hnm hmm hxm hms30 bq
  have ZS7 := D.out.size
  go_upto_region 2 with fail
  have Q := Lib.hid (Blk.new w1 26 #[.slice xa nm ya, .slice xo nm yo, .slice xi nm yi, .int .i64 bm, .int .i64 tm])
  have hb := below_alloc' w1 (.cells #[.slice xa nm ya, .slice xo nm yo, .slice xi nm yi, .int .i64 bm, .int .i64 tm] 26)
  replace R := Lib.hid (R.out.below hb R.out.lt)
  replace D := Lib.hid (D.out.below hb)
  replace BQ := Lib.hid (BQ.out.below hb)
  clear hb
  have ZQ : Hid (w.heap.size ≤ w1.heap.size) := Lib.hid ZS7
  obtain ⟨qb, hqb⟩ : ∃ b, w1.heap.size = b := ⟨_, rfl⟩
  rw [hqb] at Q ZQ ⊢
  generalize hW8 : World.alloc w1 _ = w2 at *
  clear hW8 hqb ZS7
  go_wp2_with fail
  refine (spec_l01Next _ _ _ _ _ 24 D.out.S (by decide) (by decide)).mono ?_
  rintro e w3 ⟨k2, rfl, hk2, hS, hg, -⟩
  replace BQ := Lib.hid (BQ.out.kept hg (by have := HGL.out; omega))
  replace Q := Lib.hid (D.out.blk Q.out ZQ.out hg)
  replace R := Lib.hid (D.out.blk R.out (Nat.le_refl _) hg)
  replace D := Lib.hid (D.out.call hS hg)
  clear hS hg hk2
  have kq := Q.out.cell
  have lq := Q.out.lt
  have q0 : w3.cell? ⟨qb, 0, none⟩ = some (.slice xa nm ya) := kq 0
  have q1 : w3.cell? ⟨qb, 1, none⟩ = some (.slice xo nm yo) := kq 1
  have q2 : w3.cell? ⟨qb, 2, none⟩ = some (.slice xi nm yi) := kq 2
  have q3 : w3.cell? ⟨qb, 3, none⟩ = some (.int .i64 bm) := kq 3
  have q4 : w3.cell? ⟨qb, 4, none⟩ = some (.int .i64 tm) := kq 4
  clear kq
  cases e2 : ((k2 : Int) == 0)
  · obtain ⟨A, O, I, hal, hdw⟩ := DB.out _ BQ.out
    have AL := Lib.hid hal
    have DW := Lib.hid hdw
    clear hal hdw CB DB BQ
    have kr := R.out.cell
    have fr := R.out.frozen
    have lr := R.out.lt
    go_wp2
    refine bodyPost_ret (v := .agg #[.slice xa nm ya, .slice xo nm yo, .slice xi nm yi, .int .i64 bm, .int .i64 tm]) (by simp [results, Tryz.results67, go_sem, kr, fr, lr]) rfl ⟨⟨_, _, _, _, _, A, O, I, rfl, by have := AL.out; have := HM1.out; omega, by have := AL.out; have := HMM.out; omega, ?_⟩, ?_, ?_⟩
    · exact (Dw.setBelow (Dw.setBelow (Dw.setBelow (Dw.setBelow (Dw.setBelow DW.out (p := ⟨w.heap.size, 0, none⟩) (Nat.lt_succ_self _) (.slice xa nm ya)) (p := ⟨w.heap.size, 1, none⟩) (Nat.lt_succ_self _) (.slice xo nm yo)) (p := ⟨w.heap.size, 2, none⟩) (Nat.lt_succ_self _) (.slice xi nm yi)) (p := ⟨w.heap.size, 3, none⟩) (Nat.lt_succ_self _) (.int .i64 bm)) (p := ⟨w.heap.size, 4, none⟩) (Nat.lt_succ_self _) (.int .i64 tm)).mono (Nat.le_succ _)
    · exact (Dg.set (Dg.set (Dg.set (Dg.set (Dg.set D.out (p := ⟨w.heap.size, 0, none⟩) (Nat.le_refl _) (.slice xa nm ya)) (p := ⟨w.heap.size, 1, none⟩) (Nat.le_refl _) (.slice xo nm yo)) (p := ⟨w.heap.size, 2, none⟩) (Nat.le_refl _) (.slice xi nm yi)) (p := ⟨w.heap.size, 3, none⟩) (Nat.le_refl _) (.int .i64 bm)) (p := ⟨w.heap.size, 4, none⟩) (Nat.le_refl _) (.int .i64 tm)).S
    · exact (Dg.set (Dg.set (Dg.set (Dg.set (Dg.set D.out (p := ⟨w.heap.size, 0, none⟩) (Nat.le_refl _) (.slice xa nm ya)) (p := ⟨w.heap.size, 1, none⟩) (Nat.le_refl _) (.slice xo nm yo)) (p := ⟨w.heap.size, 2, none⟩) (Nat.le_refl _) (.slice xi nm yi)) (p := ⟨w.heap.size, 3, none⟩) (Nat.le_refl _) (.int .i64 bm)) (p := ⟨w.heap.size, 4, none⟩) (Nat.le_refl _) (.int .i64 tm)).gr
  · go_wp2_with fail
    refine (CB.out _ D.out.S (show w.heap.size + 1 ≤ w3.heap.size from R.out.lt) BQ.out).mono ?_
    rintro e w4 ⟨a, o, i, b, t, A, O, I, rfl, hal, hdw, hS, hg⟩
    clear q0 q1 q2 q3 q4 lq
    have AL := Lib.hid hal
    obtain ⟨ua, ca, uo, co, ui, ci, rfl, rfl, rfl⟩ := hdw.opn
    have DW := Lib.hid hdw
    replace R := Lib.hid (D.out.blk R.out (Nat.le_refl _) hg)
    replace D := Lib.hid (D.out.call hS hg)
    clear hal hdw CB DB BQ hS hg Q
    have kr := R.out.cell
    have fr := R.out.frozen
    have lr := R.out.lt
    go_wp2
    refine bodyPost_ret (v := .agg #[.slice ua A.length ca, .slice uo O.length co, .slice ui I.length ci, .int .i64 b, .int .i64 t]) (by simp [results, Tryz.results67, go_sem, kr, fr, lr]) rfl ⟨⟨_, _, _, _, _, A, O, I, rfl, by have := AL.out; have := HM1.out; omega, by have := AL.out; have := HMM.out; omega, ?_⟩, ?_, ?_⟩
    · exact (Dw.setBelow (Dw.setBelow (Dw.setBelow (Dw.setBelow (Dw.setBelow DW.out (p := ⟨w.heap.size, 0, none⟩) (Nat.lt_succ_self _) (.slice ua A.length ca)) (p := ⟨w.heap.size, 1, none⟩) (Nat.lt_succ_self _) (.slice uo O.length co)) (p := ⟨w.heap.size, 2, none⟩) (Nat.lt_succ_self _) (.slice ui I.length ci)) (p := ⟨w.heap.size, 3, none⟩) (Nat.lt_succ_self _) (.int .i64 b)) (p := ⟨w.heap.size, 4, none⟩) (Nat.lt_succ_self _) (.int .i64 t)).mono (Nat.le_succ _)
    · exact (Dg.set (Dg.set (Dg.set (Dg.set (Dg.set D.out (p := ⟨w.heap.size, 0, none⟩) (Nat.le_refl _) (.slice ua A.length ca)) (p := ⟨w.heap.size, 1, none⟩) (Nat.le_refl _) (.slice uo O.length co)) (p := ⟨w.heap.size, 2, none⟩) (Nat.le_refl _) (.slice ui I.length ci)) (p := ⟨w.heap.size, 3, none⟩) (Nat.le_refl _) (.int .i64 b)) (p := ⟨w.heap.size, 4, none⟩) (Nat.le_refl _) (.int .i64 t)).S
    · exact (Dg.set (Dg.set (Dg.set (Dg.set (Dg.set D.out (p := ⟨w.heap.size, 0, none⟩) (Nat.le_refl _) (.slice ua A.length ca)) (p := ⟨w.heap.size, 1, none⟩) (Nat.le_refl _) (.slice uo O.length co)) (p := ⟨w.heap.size, 2, none⟩) (Nat.le_refl _) (.slice ui I.length ci)) (p := ⟨w.heap.size, 3, none⟩) (Nat.le_refl _) (.int .i64 b)) (p := ⟨w.heap.size, 4, none⟩) (Nat.le_refl _) (.int .i64 t)).gr
set_option maxRecDepth 100000 in
set_option maxHeartbeats 8000000 in
theorem spec_l19Mask (w0 : World) (v : Value) (xs : List (Fin 256)) (w : World) (g B : Nat) (a o i : Value) (b t : Int) (A O I : List (List Int)) (S : Src 95 w0 v xs w g) (hgB : g < B) (hDw : Dw B w a o i A O I) (h1 : 1 ≤ A.length) (h30 : A.length ≤ 30) :
    Calls Tryz.prog 100 #[.pointer (some ⟨g, 0, none⟩), .agg #[a, o, i, .int .i64 b, .int .i64 t]] w fun e w' => ∃ m : Int, e = .returned (.int .i64 m) ∧ Src 95 w0 v xs w' g ∧ w.grownBy w' (some g) := by
  obtain ⟨va, ca, vo, co, vi, ci, rfl, rfl, rfl⟩ := hDw.opn
  have HD : Hid (∀ X, Dg w0 v xs g w X → Hy X (.slice va A.length ca) (.slice vo O.length co) (.slice vi I.length ci) A O I) := Lib.hid (fun X d => (hDw.kept d.gr hgB).hy)
  have CS_ := Lib.hid (fun X (d : Dg w0 v xs g w X) => spec_l18Size (.slice va A.length ca) (.slice vo O.length co) (.slice vi I.length ci) b t A X (HD.out X d).a)
  have CI_ := Lib.hid (fun X (d : Dg w0 v xs g w X) => spec_l18Is (.slice va A.length ca) (.slice vo O.length co) (.slice vi I.length ci) b t A O I X (HD.out X d) hDw.sz)
  have hN30 := two_pow_30 h30
  obtain ⟨F, hF⟩ : ∃ F, F = 2 ^ A.length - 1 := ⟨_, rfl⟩
  have hF30 : F < 1073741824 := by
    have : 0 < 2 ^ A.length := Nat.pow_pos (by decide)
    omega
  have HFn := Lib.hid (fun m (hm : m ≤ F) => show m < 2 ^ A.length by
    have : 0 < 2 ^ A.length := Nat.pow_pos (by decide)
    omega)
  have CF := Lib.hid (fun W => spec_l01Full' A.length F hF W (by omega))
  clear hN30 hF
  have hb0 := below_alloc' w (.cells #[.slice va A.length ca, .slice vo O.length co, .slice vi I.length ci, .int .i64 b, .int .i64 t] 26)
  have hk0 := Blk.new w 26 #[.slice va A.length ca, .slice vo O.length co, .slice vi I.length ci, .int .i64 b, .int .i64 t]
  have D := Lib.hid ((Dg.start S).below hb0)
  have HK := Lib.hid hk0
  have HGL := Lib.hid S.lt
  clear hb0 hk0 S hDw hgB
  go_enter Tryz.func100, Tryz.ntmps100
  go_upto_region 1 with fail
  generalize World.alloc w _ = W at *
  go_wp2_with fail
  refine (spec_l01Next _ _ _ _ _ 30 D.out.S (by decide) (by decide)).mono ?_
  rintro e w1 ⟨k1, rfl, hk1, hS, hg, -⟩
  replace HK := Lib.hid (D.out.blk HK.out (Nat.le_refl _) hg)
  replace D := Lib.hid (D.out.call hS hg)
  clear hS hg hk1
  cases e1 : ((k1 : Int) == 0)
  rotate_left
  · have kh := HK.out.cell
    have lh := HK.out.lt
    go_wp2_with fail
    refine (CS_.out _ D.out).mono ?_
    rintro e w2 ⟨rfl, hb⟩
    replace D := Lib.hid (D.out.below hb)
    clear kh lh hb
    go_wp2_with fail
    refine (CF.out _).mono ?_
    rintro e _ ⟨rfl, rfl⟩
    go_wp2_with fail
    have hb := below_alloc' w2 (.cells #[.int .i64 (-1), .int .i64 ((F : Int) + 1)] 2)
    have OL : Hid (Ow cI 2 w.heap.size (World.alloc w2 (.cells #[.int .i64 (-1), .int .i64 ((F : Int) + 1)] 2)) (.slice (some ⟨w2.heap.size, 0, none⟩) 2 2) [-1, (F : Int) + 1]) := Lib.hid (Ow.lit [-1, (F : Int) + 1] rfl rfl D.out.size)
    have NE : Hid ((Value.slice (some ⟨w2.heap.size, 0, none⟩) 2 2).ownBlock = none ∨ (Value.slice (some ⟨w2.heap.size, 0, none⟩) 2 2).ownBlock ≠ some g) := Lib.hid (.inr fun e => by have h := D.out.S.lt; injection e with e; have e' : w2.heap.size = g := e; omega)
    replace D := Lib.hid (D.out.below hb)
    clear hb
    generalize hW3 : World.alloc w2 _ = w3 at *
    clear hW3
    refine (spec_l01Pick w0 v xs _ g _ [-1, (F : Int) + 1] D.out.S OL.out.sl NE.out (by simp) (by simp)).mono ?_
    rintro e w4 ⟨x, rfl, -, hS, hg, -⟩
    replace D := Lib.hid (D.out.call hS hg)
    clear hS hg
    go_wp2
    go_ret
    exact ⟨_, rfl, D.out.S, D.out.gr⟩
  go_upto_region 3 with fail
  have hI : Dg w0 v xs g w w1.drew ∧ Blk w1.drew w.heap.size 26 #[.slice va A.length ca, .slice vo O.length co, .slice vi I.length ci, .int .i64 b, .int .i64 t] := ⟨D.out.drewN 1, HK.out.drewN 1⟩
  refine wp_region_sched (fun X : World => Dg w0 v xs g w X ∧ Blk X w.heap.size 26 #[.slice va A.length ca, .slice vo O.length co, .slice vi I.length ci, .int .i64 b, .int .i64 t]) 6 [0, 2, 5] [0, 2, 1, 3, 4, 5] (by kernel_rfl) (by kernel_rfl) hI ?_
  repeat
    apply wpSched_q rfl rfl
    case h =>
      intro w' hI K hK
      have cc0 : w'.cell? ⟨w.heap.size, 0, none⟩ = some (.slice va A.length ca) := hI.2.cell 0
      have cc1 : w'.cell? ⟨w.heap.size, 1, none⟩ = some (.slice vo O.length co) := hI.2.cell 1
      have cc2 : w'.cell? ⟨w.heap.size, 2, none⟩ = some (.slice vi I.length ci) := hI.2.cell 2
      have cc3 : w'.cell? ⟨w.heap.size, 3, none⟩ = some (.int .i64 b) := hI.2.cell 3
      have cc4 : w'.cell? ⟨w.heap.size, 4, none⟩ = some (.int .i64 t) := hI.2.cell 4
      simp only [quietV, stillV]
      go_simp
      exact hK
    go_simp
  refine wpSched_r rfl rfl ?_ hI
  intro K hK _
  go_simp
  refine (spec_l01Next _ _ _ _ _ 65536 hI.1.S (by decide) (by decide)).mono ?_
  rintro e w2 ⟨k2, rfl, hk2, hS, hg, -⟩
  have hI2 := And.intro (hI.1.call hS hg) (hI.1.blk hI.2 (Nat.le_refl _) hg)
  refine hK _ _ hI2 ?_
  clear hK K hS hg hI D HK
  refine wpSched_r rfl rfl ?_ hI2
  intro K hK _
  go_simp
  refine (CS_.out _ hI2.1).mono ?_
  rintro e w3 ⟨rfl, hb⟩
  have hI := And.intro (hI2.1.below hb) (hI2.2.below hb hI2.2.lt)
  refine hK _ _ hI ?_
  clear hK K hb hI2
  refine wpSched_r rfl rfl ?_ hI
  intro K hK _
  go_simp
  refine (CF.out _).mono ?_
  rintro e _ ⟨rfl, rfl⟩
  refine hK _ _ hI ?_
  clear hK K
  have ea := i64_and_nat k2 F (by omega) (by omega)
  have hm0 : k2 &&& F ≤ F := Nat.and_le_right
  generalize k2 &&& F = m at *
  repeat
    apply wpSched_q rfl rfl
    case h =>
      intro w' hI K hK
      have ea' := ea
      simp only [quietV, stillV]
      go_simp
      exact hK
    go_simp
  refine wpSched_nil ?_
  try simp only [List.drop_succ_cons, List.drop_zero, List.drop_nil]
  have D := Lib.hid hI.1
  have HK := Lib.hid hI.2
  have HM := Lib.hid (HFn.out m hm0)
  clear hI hk2 CF HFn
  have kh := HK.out.cell
  have lh := HK.out.lt
  go_wp2_with fail
  clear ea
  refine (CI_.out _ D.out).mono ?_
  rintro e w4 ⟨rfl, hb⟩
  clear kh lh CI_
  replace D := Lib.hid (D.out.below hb)
  replace HK := Lib.hid (HK.out.below hb HK.out.lt)
  clear hb
  by_cases hy : hyt A O I b t
  rotate_left
  · have E := Lib.hid (decide_eq_false hy)
    rw [E.out]
    clear hy
    go_wp2
    go_ret
    exact ⟨_, rfl, D.out.S, D.out.gr⟩
  rw [decide_eq_true hy]
  obtain ⟨A1, O1, I1, b1, t1, rfl, rfl, rfl, rfl, rfl, hT⟩ := hyt_T hy
  clear hy
  have HT := Lib.hid hT
  clear hT
  go_wp2_with fail
  refine (spec_l01Next _ _ _ _ _ 3 D.out.S (by decide) (by decide)).mono ?_
  rintro e w5 ⟨k3, rfl, hk3, hS, hg, -⟩
  replace HK := Lib.hid (D.out.blk HK.out (Nat.le_refl _) hg)
  replace D := Lib.hid (D.out.call hS hg)
  clear hS hg hk3
  by_cases h3 : 0 < k3
  rotate_left
  · have h3' : ¬ (0 : Int) < (k3 : Int) := by omega
    clear h3
    go_wp2
    go_ret
    exact ⟨_, rfl, D.out.S, D.out.gr⟩
  have h3' : (0 : Int) < (k3 : Int) := by omega
  clear h3
  go_wp2_with fail
  refine (spec_l01Next _ _ _ _ _ 2 D.out.S (by decide) (by decide)).mono ?_
  rintro e w6 ⟨k4, rfl, hk4, hS, hg, -⟩
  replace HK := Lib.hid (D.out.blk HK.out (Nat.le_refl _) hg)
  replace D := Lib.hid (D.out.call hS hg)
  clear hS hg hk4 h3'
  have HLA := Lib.hid (lil_length A1)
  cases e4 : ((k4 : Int) == 0)
  · go_upto_region 7 with fail
    have hI : Dg w0 v xs g w w6.drew ∧ Blk w6.drew w.heap.size 26 #[.slice va (lil A1).length ca, .slice vo (lil O1).length co, .slice vi (lil I1).length ci, .int .i64 (b1 : Int), .int .i64 (t1 : Int)] := ⟨D.out.drewN 1, HK.out.drewN 1⟩
    refine wp_region_sched (fun X : World => Dg w0 v xs g w X ∧ Blk X w.heap.size 26 #[.slice va (lil A1).length ca, .slice vo (lil O1).length co, .slice vi (lil I1).length ci, .int .i64 (b1 : Int), .int .i64 (t1 : Int)]) 9 [0, 1, 2, 4, 5, 7] [0, 1, 2, 5, 3, 4, 6, 7, 8] (by kernel_rfl) (by kernel_rfl) hI ?_
    repeat
      apply wpSched_q rfl rfl
      case h =>
        intro w' hI K hK
        have cc0 : w'.cell? ⟨w.heap.size, 0, none⟩ = some (.slice va (lil A1).length ca) := hI.2.cell 0
        have cc1 : w'.cell? ⟨w.heap.size, 1, none⟩ = some (.slice vo (lil O1).length co) := hI.2.cell 1
        have cc2 : w'.cell? ⟨w.heap.size, 2, none⟩ = some (.slice vi (lil I1).length ci) := hI.2.cell 2
        have cc3 : w'.cell? ⟨w.heap.size, 3, none⟩ = some (.int .i64 (b1 : Int)) := hI.2.cell 3
        have cc4 : w'.cell? ⟨w.heap.size, 4, none⟩ = some (.int .i64 (t1 : Int)) := hI.2.cell 4
        simp only [quietV, stillV]
        go_simp
        exact hK
      go_simp
    refine wpSched_r rfl rfl ?_ hI
    intro K hK _
    go_simp
    refine (spec_l01Next _ _ _ _ _ 65536 hI.1.S (by decide) (by decide)).mono ?_
    rintro e w7 ⟨k5, rfl, hk5, hS, hg, -⟩
    have hI2 := And.intro (hI.1.call hS hg) (hI.1.blk hI.2 (Nat.le_refl _) hg)
    refine hK _ _ hI2 ?_
    clear hK K hS hg hI D HK
    have hm30 : m < 1073741824 := Nat.lt_of_lt_of_le HM.out (two_pow_30 h30)
    have ea := i64_and_nat m k5 (by omega) (by omega)
    have hm1 : m &&& k5 ≤ m := Nat.and_le_left
    generalize m &&& k5 = m1 at *
    repeat
      apply wpSched_q rfl rfl
      case h =>
        intro w' hI K hK
        have ea' := ea
        simp only [quietV, stillV]
        go_simp
        exact hK
      go_simp
    clear ea
    refine wpSched_r rfl rfl ?_ hI2
    intro K hK _
    go_simp
    refine (spec_l01Next _ _ _ _ _ 65536 hI2.1.S (by decide) (by decide)).mono ?_
    rintro e w8 ⟨k6, rfl, hk6, hS, hg, -⟩
    have hI := And.intro (hI2.1.call hS hg) (hI2.1.blk hI2.2 (Nat.le_refl _) hg)
    refine hK _ _ hI ?_
    clear hK K hS hg hI2
    have ea := i64_and_nat m1 k6 (by omega) (by omega)
    have hm2 : m1 &&& k6 ≤ m1 := Nat.and_le_left
    generalize m1 &&& k6 = m2 at *
    repeat
      apply wpSched_q rfl rfl
      case h =>
        intro w' hI K hK
        have ea' := ea
        simp only [quietV, stillV]
        go_simp
        exact hK
      go_simp
    clear ea
    refine wpSched_r rfl rfl ?_ hI
    intro K hK _
    go_simp
    refine (spec_l19Close _ _ _ A1 O1 I1 b1 t1 m2 _ (HD.out _ hI.1) HT.out (Nat.lt_of_le_of_lt (Nat.le_trans hm2 hm1) (by have := HM.out; rwa [HLA.out] at this))).mono ?_
    rintro e w9 ⟨r, rfl, hb⟩
    have hI2 := And.intro (hI.1.below hb) (hI.2.below hb hI.2.lt)
    refine hK _ _ hI2 ?_
    clear hK K hb hI hm30 hm1 hm2 hk5 hk6
    refine wpSched_nil ?_
    try simp only [List.drop_succ_cons, List.drop_zero, List.drop_nil]
    go_wp2
    go_ret
    exact ⟨_, rfl, hI2.1.S, hI2.1.gr⟩
  · go_upto_region 6 with fail
    have hI : Dg w0 v xs g w w6.drew ∧ Blk w6.drew w.heap.size 26 #[.slice va (lil A1).length ca, .slice vo (lil O1).length co, .slice vi (lil I1).length ci, .int .i64 (b1 : Int), .int .i64 (t1 : Int)] := ⟨D.out.drewN 1, HK.out.drewN 1⟩
    refine wp_region_sched (fun X : World => Dg w0 v xs g w X ∧ Blk X w.heap.size 26 #[.slice va (lil A1).length ca, .slice vo (lil O1).length co, .slice vi (lil I1).length ci, .int .i64 (b1 : Int), .int .i64 (t1 : Int)]) 6 [0, 2, 3] [0, 2, 3, 1, 4, 5] (by kernel_rfl) (by kernel_rfl) hI ?_
    repeat
      apply wpSched_q rfl rfl
      case h =>
        intro w' hI K hK
        have cc0 : w'.cell? ⟨w.heap.size, 0, none⟩ = some (.slice va (lil A1).length ca) := hI.2.cell 0
        have cc1 : w'.cell? ⟨w.heap.size, 1, none⟩ = some (.slice vo (lil O1).length co) := hI.2.cell 1
        have cc2 : w'.cell? ⟨w.heap.size, 2, none⟩ = some (.slice vi (lil I1).length ci) := hI.2.cell 2
        have cc3 : w'.cell? ⟨w.heap.size, 3, none⟩ = some (.int .i64 (b1 : Int)) := hI.2.cell 3
        have cc4 : w'.cell? ⟨w.heap.size, 4, none⟩ = some (.int .i64 (t1 : Int)) := hI.2.cell 4
        simp only [quietV, stillV]
        go_simp
        exact hK
      go_simp
    refine wpSched_r rfl rfl ?_ hI
    intro K hK _
    go_simp
    refine (spec_l18Order _ _ _ _ _ A1 A1.length _ (HD.out _ hI.1).a HT.out.tA (by rw [← HLA.out]; exact h30)).mono ?_
    rintro e w7 ⟨u, rfl, o0, hb⟩
    have O0 := Lib.hid (hI.1.made o0)
    have hI2 := And.intro (hI.1.below hb) (hI.2.below hb hI.2.lt)
    refine hK _ _ hI2 ?_
    clear hK K hb hI D HK o0
    refine wpSched_r rfl rfl ?_ hI2
    intro K hK _
    go_simp
    refine (CS_.out _ hI2.1).mono ?_
    rintro e w8 ⟨rfl, hb⟩
    have hI := And.intro (hI2.1.below hb) (hI2.2.below hb hI2.2.lt)
    replace O0 := Lib.hid (O0.out.below hb)
    refine hK _ _ hI ?_
    clear hK K hb hI2
    refine wpSched_r rfl rfl ?_ hI
    intro K hK _
    go_simp
    refine (spec_l01Next _ _ _ _ _ ((lil A1).length : Int) hI.1.S (by omega) (by omega)).mono ?_
    rintro e w9 ⟨k5, rfl, hk5, hS, hg, -⟩
    have hI2 := And.intro (hI.1.call hS hg) (hI.1.blk hI.2 (Nat.le_refl _) hg)
    replace O0 := Lib.hid (hI.1.pass O0.out hg)
    refine hK _ _ hI2 ?_
    clear hK K hS hg hI
    refine wpSched_nil ?_
    try simp only [List.drop_succ_cons, List.drop_zero, List.drop_nil]
    have HOL := Lib.hid (show (li (ordH A1)).length = (lil A1).length by rw [li_length, ordH_length, lil_length])
    obtain ⟨uo, cuo, rfl⟩ := O0.out.opn
    rw [HOL.out] at O0 ⊢
    obtain ⟨bo, oo, rfl, hbo, hco⟩ := O0.out.sl.atI (k := k5) (by rw [HOL.out]; omega)
    have D := Lib.hid hI2.1
    have hk5' : k5 < (lil A1).length := by omega
    generalize (li (ordH A1))[k5]'(by rw [HOL.out]; omega) = r at *
    clear hI2
    go_wp2
    go_ret
    exact ⟨_, rfl, D.out.S, D.out.gr⟩
set_option maxRecDepth 100000 in
set_option maxHeartbeats 4000000 in
theorem spec_l19Place (v : Value) (xs : List (Fin 256)) (w : World) (h : Sl cY w v xs) (hl : xs.length ≤ 4096) :
    Calls Tryz.prog 58 #[v] w fun e w' => ∃ (a o i : Value) (b t m : Int) (A O I : List (List Int)), e = .returned (.tuple #[.agg #[a, o, i, .int .i64 b, .int .i64 t], .int .i64 m]) ∧ 1 ≤ A.length ∧ A.length ≤ 12 ∧ Dw w.heap.size w' a o i A O I ∧ Below w.heap.size w w' := by
  have hb1 := below_alloc' w (.cells #[.slice none 0 0, .slice none 0 0, .slice none 0 0, .int .i64 0, .int .i64 0] 26)
  have R := Lib.hid (Blk.new w 26 #[.slice none 0 0, .slice none 0 0, .slice none 0 0, .int .i64 0, .int .i64 0])
  have HH := Lib.hid (h.below hb1)
  have HB := Lib.hid hb1
  clear hb1 h
  go_enter Tryz.func58, Tryz.ntmps58
  go_upto_region 1 with fail
  generalize World.alloc w _ = W at *
  go_wp2_with fail
  refine (spec_l01From v xs W HH.out hl).mono ?_
  rintro e w1 ⟨rfl, hS, hb⟩
  obtain ⟨g, hg0⟩ : ∃ g, W.heap.size = g := ⟨_, rfl⟩
  rw [hg0] at hS ⊢
  have ZG : Hid (w.heap.size < g) := Lib.hid (hg0 ▸ R.out.lt)
  replace R := Lib.hid (R.out.below hb R.out.lt)
  replace HB := Lib.hid (bthen HB.out hb)
  have D := Lib.hid (Dg.start hS)
  have BW := Lib.hid (Below.refl w1.heap.size w1)
  clear hS hb HH hg0
  go_wp2_with fail
  refine (spec_l18Draw W v xs w1 g 12 D.out.S (by decide) (by decide)).mono ?_
  rintro e w2 ⟨⟨a, o, i, b, t, A, O, I, rfl, h1, h12, hdw⟩, hS, hg⟩
  obtain ⟨va, ca, vo, co, vi, ci, rfl, rfl, rfl⟩ := hdw.opn
  have DW := Lib.hid hdw
  replace R := Lib.hid (R.out.grown hg (fun e => by injection e with e; have := ZG.out; omega))
  replace D := Lib.hid (D.out.call hS hg)
  clear hS hg hdw BW
  have ZS7 := D.out.size
  have H1 := Lib.hid h1
  have H12 := Lib.hid h12
  clear h1 h12
  go_upto_region 3 with fail
  have Q := Lib.hid (Blk.new w2 26 #[.slice va A.length ca, .slice vo O.length co, .slice vi I.length ci, .int .i64 b, .int .i64 t])
  have hb := below_alloc' w2 (.cells #[.slice va A.length ca, .slice vo O.length co, .slice vi I.length ci, .int .i64 b, .int .i64 t] 26)
  replace R := Lib.hid (R.out.below hb R.out.lt)
  replace D := Lib.hid (D.out.below hb)
  replace DW := Lib.hid (DW.out.below hb)
  clear hb
  have ZQ : Hid (w1.heap.size ≤ w2.heap.size) := Lib.hid ZS7
  obtain ⟨qb, hqb⟩ : ∃ b, w2.heap.size = b := ⟨_, rfl⟩
  rw [hqb] at Q ZQ ⊢
  generalize hW8 : World.alloc w2 _ = w3 at *
  clear hW8 hqb ZS7
  have hI : Dg W v xs g w1 w3.drew ∧ Blk w3.drew qb 26 #[.slice va A.length ca, .slice vo O.length co, .slice vi I.length ci, .int .i64 b, .int .i64 t] := ⟨D.out.drewN 1, Q.out.drewN 1⟩
  have DWd := Lib.hid (DW.out.kept (grown_drewN (World.grownBy.refl w3 (some g)) 1) (show g < w1.heap.size from D.out.lt))
  have Rd : Hid (Blk w3.drew w.heap.size 26 #[.slice none 0 0, .slice none 0 0, .slice none 0 0, .int .i64 0, .int .i64 0]) := Lib.hid (R.out.drewN 1)
  clear DW R
  refine wp_region_sched (fun X : World => Dg W v xs g w1 X ∧ Blk X qb 26 #[.slice va A.length ca, .slice vo O.length co, .slice vi I.length ci, .int .i64 b, .int .i64 t]) 4 [0, 1, 2] [0, 1, 2, 3] (by kernel_rfl) (by kernel_rfl) hI ?_
  repeat
    apply wpSched_q rfl rfl
    case h =>
      intro w' hI K hK
      have cc0 : w'.cell? ⟨qb, 0, none⟩ = some (.slice va A.length ca) := hI.2.cell 0
      have cc1 : w'.cell? ⟨qb, 1, none⟩ = some (.slice vo O.length co) := hI.2.cell 1
      have cc2 : w'.cell? ⟨qb, 2, none⟩ = some (.slice vi I.length ci) := hI.2.cell 2
      have cc3 : w'.cell? ⟨qb, 3, none⟩ = some (.int .i64 b) := hI.2.cell 3
      have cc4 : w'.cell? ⟨qb, 4, none⟩ = some (.int .i64 t) := hI.2.cell 4
      simp only [quietV, stillV]
      go_simp
      exact hK
    go_simp
  refine wpSched_r rfl rfl ?_ hI
  intro K hK _
  go_simp
  refine (spec_l19Mask W v xs _ g w1.heap.size _ _ _ b t A O I hI.1.S hI.1.lt DWd.out H1.out (by have := H12.out; omega)).mono ?_
  rintro e w5 ⟨m, rfl, hS, hg⟩
  have hI2 := And.intro (hI.1.call hS hg) (hI.1.blk hI.2 ZQ.out hg)
  have DW5 := Lib.hid (DWd.out.kept hg (show g < w1.heap.size from D.out.lt))
  have R5 := Lib.hid (Rd.out.grown hg (fun e => by injection e with e; have := ZG.out; omega))
  refine hK _ _ hI2 ?_
  clear hK K hS hg hI DWd Rd D Q
  refine wpSched_nil ?_
  try simp only [List.drop_succ_cons, List.drop_zero, List.drop_nil]
  have D := Lib.hid hI2.1
  clear hI2
  have kr := R5.out.cell
  have fr := R5.out.frozen
  have lr := R5.out.lt
  have ZW : Hid (w.heap.size + 1 ≤ w1.heap.size) := Lib.hid (by have := HB.out.size; have := ZG.out; have := D.out.lt; omega)
  go_wp2
  refine bodyPost_ret (v := .tuple #[.agg #[.slice va A.length ca, .slice vo O.length co, .slice vi I.length ci, .int .i64 b, .int .i64 t], .int .i64 m]) (by simp [results, Tryz.results58, go_sem, kr, fr, lr]) rfl ⟨_, _, _, _, _, _, A, O, I, rfl, H1.out, H12.out, ?_, ?_⟩
  · exact (Dw.setBelow (Dw.setBelow (Dw.setBelow (Dw.setBelow (Dw.setBelow DW5.out (p := ⟨w.heap.size, 0, none⟩) (show w.heap.size < w1.heap.size by have := ZW.out; omega) (.slice va A.length ca)) (p := ⟨w.heap.size, 1, none⟩) (show w.heap.size < w1.heap.size by have := ZW.out; omega) (.slice vo O.length co)) (p := ⟨w.heap.size, 2, none⟩) (show w.heap.size < w1.heap.size by have := ZW.out; omega) (.slice vi I.length ci)) (p := ⟨w.heap.size, 3, none⟩) (show w.heap.size < w1.heap.size by have := ZW.out; omega) (.int .i64 b)) (p := ⟨w.heap.size, 4, none⟩) (show w.heap.size < w1.heap.size by have := ZW.out; omega) (.int .i64 t)).mono (by have := ZW.out; omega)
  · have HZ : Below w.heap.size w w5 := by
      have q := D.out.gr
      have h := HB.out
      have hg := ZG.out
      exact ⟨q.os.trans h.os, q.tape.trans h.tape, q.output.trans h.output, Nat.le_trans h.size q.size, fun k hk => (q.block k (Nat.lt_of_lt_of_le hk h.size) (fun e => by injection e with e; omega)).trans (h.block k hk)⟩
    exact (Below.setCell (Below.setCell (Below.setCell (Below.setCell (Below.setCell (HZ) (p := ⟨w.heap.size, 0, none⟩) (Nat.le_refl _) (.slice va A.length ca)) (p := ⟨w.heap.size, 1, none⟩) (Nat.le_refl _) (.slice vo O.length co)) (p := ⟨w.heap.size, 2, none⟩) (Nat.le_refl _) (.slice vi I.length ci)) (p := ⟨w.heap.size, 3, none⟩) (Nat.le_refl _) (.int .i64 b)) (p := ⟨w.heap.size, 4, none⟩) (Nat.le_refl _) (.int .i64 t))
set_option maxRecDepth 100000 in
set_option maxHeartbeats 4000000 in
theorem spec_DrawQuotientAlgebra (v : Value) (xs : List (Fin 256)) (w : World) (h : Sl cY w v xs) (hl : xs.length ≤ 4096) :
    Calls Tryz.prog 18 #[v] w fun e w' => ∃ (a o i : Value) (b t m : Int) (A O I : List (List Int)), e = .returned (.tuple #[.agg #[a, o, i, .int .i64 b, .int .i64 t], .int .i64 m]) ∧ 1 ≤ A.length ∧ A.length ≤ 12 ∧ SzH A O I ∧ Hy w' a o i A O I ∧ Below w.heap.size w w' := by
  have hb1 := below_alloc' w (.cells #[.slice none 0 0, .slice none 0 0, .slice none 0 0, .int .i64 0, .int .i64 0] 26)
  have R := Lib.hid (Blk.new w 26 #[.slice none 0 0, .slice none 0 0, .slice none 0 0, .int .i64 0, .int .i64 0])
  have HH := Lib.hid (h.below hb1)
  have HB := Lib.hid hb1
  clear hb1 h
  go_enter Tryz.func18, Tryz.ntmps18
  go_upto_region 1 with fail
  generalize World.alloc w _ = W at *
  go_wp2_with fail
  refine (spec_l19Place v xs W HH.out hl).mono ?_
  rintro e w1 ⟨a, o, i, b, t, m, A, O, I, rfl, h1, h12, hdw, hb⟩
  have hD9 := hdw
  obtain ⟨va, ca, vo, co, vi, ci, rfl, rfl, rfl⟩ := hdw.opn
  have DW := Lib.hid hdw
  have ZR : Hid (w.heap.size < W.heap.size) := Lib.hid R.out.lt
  replace R := Lib.hid (R.out.below hb R.out.lt)
  replace HB := Lib.hid (bthen HB.out hb)
  have H1 := Lib.hid h1
  have H12 := Lib.hid h12
  clear hb hdw hD9 h1 h12 HH
  have kr := R.out.cell
  have fr := R.out.frozen
  have lr := R.out.lt
  go_wp2
  refine bodyPost_ret (v := .tuple #[.agg #[.slice va A.length ca, .slice vo O.length co, .slice vi I.length ci, .int .i64 b, .int .i64 t], .int .i64 m]) (by simp [results, Tryz.results18, go_sem, kr, fr, lr]) rfl ⟨_, _, _, _, _, _, A, O, I, rfl, H1.out, H12.out, DW.out.sz, ?_, ?_⟩
  · exact (Dw.setBelow (Dw.setBelow (Dw.setBelow (Dw.setBelow (Dw.setBelow DW.out (p := ⟨w.heap.size, 0, none⟩) ZR.out (.slice va A.length ca)) (p := ⟨w.heap.size, 1, none⟩) ZR.out (.slice vo O.length co)) (p := ⟨w.heap.size, 2, none⟩) ZR.out (.slice vi I.length ci)) (p := ⟨w.heap.size, 3, none⟩) ZR.out (.int .i64 b)) (p := ⟨w.heap.size, 4, none⟩) ZR.out (.int .i64 t)).hy
  · exact (Below.setCell (Below.setCell (Below.setCell (Below.setCell (Below.setCell HB.out (p := ⟨w.heap.size, 0, none⟩) (Nat.le_refl _) (.slice va A.length ca)) (p := ⟨w.heap.size, 1, none⟩) (Nat.le_refl _) (.slice vo O.length co)) (p := ⟨w.heap.size, 2, none⟩) (Nat.le_refl _) (.slice vi I.length ci)) (p := ⟨w.heap.size, 3, none⟩) (Nat.le_refl _) (.int .i64 b)) (p := ⟨w.heap.size, 4, none⟩) (Nat.le_refl _) (.int .i64 t))
end Go.Proofs.YtgkogfjifcfkoaaGreat

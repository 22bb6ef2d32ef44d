/- The discharger: the lines for a detachment. -/
import Derived.Test.YtcikenffeekkeaaGreatDoorY46
import Derived.Test.YtcikenffeekkeaaGreatDoorY37
namespace Go.Proofs.YtcikenffeekkeaaGreatDoor
open Go.RowKit
set_option linter.unusedVariables false
set_option linter.unusedSimpArgs false
theorem impl_addK {B g : Nat} {c : Nat → Nat} {va vl vs vi : Value} {ls : List Ln} {se im : List Int} {w w1 : World} (h : DsM B g c va vl vs vi ls se im w) (hb : Below w.heap.size w w1) {A : Option Addr} {n cc : Nat} {xs : List Nd} (ho : Ow cN 75 w.heap.size w1 (.slice A n cc) xs) (r f s : Int) (hl : ls.length ≤ 1000) :
    Calls Tryz.prog 48 #[.pointer (some ⟨g, 0, none⟩), .int .i64 r, .int .i64 f, .int .i64 s, .slice A n cc] w1 fun e w' => e = .returned (.int .i64 ls.length) ∧ ∃ vl' c', DsM B g c' va vl' vs vi (ls ++ [⟨r, f, s, xs⟩]) se im w' ∧
      (∀ k, k < w.heap.size → c' k = c k) ∧ KpS (fun k => c k = 1 ∨ c k = 2) w w' ∧ Below B w w' := by
  obtain ⟨h1, ho', hc⟩ := h.free hb ho
  refine (impl_add h1 ho' hc r f s hl).mono ?_
  rintro e w' ⟨rfl, vl', c', h2, hcc, hk⟩
  refine ⟨rfl, vl', c', h2, fun k hk2 => (hcc k (Nat.lt_of_lt_of_le hk2 hb.size) fun e2 => by have := (ho.block k e2).1; omega).trans (fz_lt hk2), (KpS.of hb).trans (hk.mono fun k e => ?_), (hb.mono (by have := h.gB; have := h.blk.lt; omega)).trans (h1.toB hk fun k e => by omega)⟩
  by_cases hlt : k < w.heap.size
  · rw [fz_lt hlt] at e; exact e
  · rw [fz_ge (by omega)] at e; omega
/-- the line's own box -/
def FbW (c : Nat → Nat) (w : World) (p : Nat) (cs : Array Value) : Prop := Blk w p 46 cs ∧ c p = 0
theorem FbW.go {c : Nat → Nat} {w w1 : World} {p : Nat} {cs : Array Value} (h : FbW c w p cs) (hb : Below w.heap.size w w1) : FbW (fz c w.heap.size) w1 p cs :=
  ⟨h.1.below hb h.1.lt, by rw [fz_lt h.1.lt, h.2]⟩
theorem FbW.kps {c c' : Nat → Nat} {w w' : World} {p : Nat} {cs : Array Value} {S : Nat → Prop} (h : FbW c w p cs) (hk : KpS S w w') (hS : ∀ k, S k → c k ≠ 0) (hc : ∀ k, k < w.heap.size → c' k = c k) : FbW c' w' p cs :=
  ⟨h.1.kps hk fun e => hS p e h.2, by rw [hc p h.1.lt, h.2]⟩
theorem FrW.kpc {B : Nat} {c c' : Nat → Nat} {w w' : World} {v : Value} {xs : List Nd} {S : Nat → Prop} (h : FrW B c w v xs) (hk : KpS S w w') (hS : ∀ k, S k → c k ≠ 0) (hc : ∀ k, k < w.heap.size → c' k = c k) : FrW B c' w' v xs :=
  h.kps hk hS fun k e => hc k (h.1.block k e).2
theorem Sl.atF {w : World} {b o n c : Nat} {xs : List Int} (h : Sl cI w (.slice (some ⟨b, o, none⟩) n c) xs) {k : Nat} (hk : k < xs.length) : b < w.heap.size ∧ w.cell? ⟨b, o + k, none⟩ = some (.int .i64 xs[k]) := by
  obtain ⟨b', o', e, hb, hc⟩ := h.atI hk
  injection e with e
  injection e with e1 e2
  subst e1 e2
  exact ⟨hb, hc⟩
/-- what the reads of a detachment's premise meet -/
def IW (g p ib io n ci i x : Nat) (y : Int) (X : World) : Prop :=
  X.cell? ⟨g, 3, none⟩ = some (.slice (some ⟨ib, io, none⟩) n ci) ∧ X.cell? ⟨p, i, none⟩ = some (.int .i64 (x : Int)) ∧ X.cell? ⟨ib, io + x, none⟩ = some (.int .i64 y)
theorem DsM.iw {B g : Nat} {c : Nat → Nat} {va vl vs : Value} {ib io ci : Nat} {ls : List Ln} {se im : List Int} {X : World} (h : DsM B g c va vl vs (.slice (some ⟨ib, io, none⟩) im.length ci) ls se im X) {p : Nat} {cs : Array Value} (hp : FbW c X p cs) {i x : Nat} (hi : cs[i]? = some (.int .i64 (x : Int))) (hx : x < im.length) :
    IW g p ib io im.length ci i x im[x] X ∧ ib < X.heap.size :=
  ⟨⟨h.blk.cell 3, (hp.1.cell i).trans hi, (h.im_.sl.atF hx).2⟩, (h.im_.sl.atF hx).1⟩
theorem IW.below {g p ib io n ci i x : Nat} {y : Int} {X X' : World} (h : IW g p ib io n ci i x y X) (hb : Below X.heap.size X X') (h1 : g < X.heap.size) (h2 : p < X.heap.size) (h3 : ib < X.heap.size) : IW g p ib io n ci i x y X' :=
  ⟨(hb.cell (p := ⟨g, 3, none⟩) h1).trans h.1, (hb.cell (p := ⟨p, i, none⟩) h2).trans h.2.1, (hb.cell (p := ⟨ib, io + x, none⟩) h3).trans h.2.2⟩
set_option maxRecDepth 100000 in
set_option maxHeartbeats 4000000 in
theorem impl_detach {g : Nat} {c : Nat → Nat} {va vl vs vi : Value} {ls : List Ln} {se im : List Int} {w0 w : World} (h : DsM w0.heap.size g c va vl vs vi ls se im w) (hb : Below w0.heap.size w0 w) {a xs ds : List Nd} {vx vd : Value} (ha : Sl cN w0 va a) (hx : Sl cN w0 vx xs) (hd : Sl cN w0 vd ds)
    (r : Int) (f s : Nat) (hf : f < im.length) (hs : s < im.length) (hla : a.length ≤ 40) (hlx : xs.length ≤ 40) (hld : ds.length ≤ 40) (hl : ls.length ≤ 995) (hse : se.length ≤ 200) (him : im.length ≤ 200) :
    Calls Tryz.prog 52 #[.pointer (some ⟨g, 0, none⟩), .agg #[.int .i64 r, .int .i64 (f : Int), .int .i64 (s : Int), vx], vd] w fun e w' => e = .returned (.tuple #[]) ∧ ∃ vl' vs' vi' c',
      DsM w0.heap.size g c' va vl' vs' vi' (ls ++ dtLs a ds xs ls.length im[f] im[s]) (se ++ [-1]) (im ++ [(ls.length : Int) + 2]) w' ∧ Below w0.heap.size w0 w' := by
  have HB := Lib.hid hb
  have HA := Lib.hid ha
  have HX := Lib.hid hx
  have HD := Lib.hid hd
  obtain ⟨Aa, ca, rfl⟩ := ha.opn
  obtain ⟨Ax, cx, rfl⟩ := hx.opn
  obtain ⟨Ad, cd, rfl⟩ := hd.opn
  obtain ⟨Ai, ci, rfl⟩ := h.im_.opn
  obtain ⟨ib, io, rfl, -, -⟩ := h.im_.sl.atI hf
  obtain ⟨cs, hcs⟩ : ∃ cs : Array Value, cs = #[.int .i64 r, .int .i64 (f : Int), .int .i64 (s : Int), .slice Ax xs.length cx] := ⟨_, rfl⟩
  have HCS := Lib.hid hcs
  have HH0 := Lib.hid h
  have hb1 := below_alloc' w (.cells #[.int .i64 r, .int .i64 (f : Int), .int .i64 (s : Int), .slice Ax xs.length cx] 46)
  have hp0 : FbW (fz c w.heap.size) (w.alloc (.cells #[.int .i64 r, .int .i64 (f : Int), .int .i64 (s : Int), .slice Ax xs.length cx] 46)) w.heap.size cs := ⟨by rw [hcs]; exact Blk.new w 46 _, fz_ge (Nat.le_refl _)⟩
  have h1 := h.go hb1
  have HB1 := Lib.hid (hb.trans (hb1.mono hb.size))
  obtain ⟨AD, hAD⟩ : ∃ X, [((4 : Int), (0 : Int))] ++ a ++ ds = X := ⟨_, rfl⟩
  obtain ⟨AC, hAC⟩ : ∃ X, [((4 : Int), (0 : Int))] ++ a ++ xs = X := ⟨_, rfl⟩
  obtain ⟨WW, hWW⟩ : ∃ X, [((4 : Int), (0 : Int))] ++ a ++ ([((4 : Int), (0 : Int))] ++ ds ++ xs) = X := ⟨_, rfl⟩
  obtain ⟨DC, hDC⟩ : ∃ X, [((4 : Int), (0 : Int))] ++ AD ++ AC = X := ⟨_, rfl⟩
  obtain ⟨F1, hF1⟩ : ∃ X, [((4 : Int), (0 : Int))] ++ WW ++ ([((4 : Int), (0 : Int))] ++ AD ++ AC) = X := ⟨_, rfl⟩
  have HLD : Hid (AD.length ≤ 81) := Lib.hid (by rw [← hAD]; simp; omega)
  have HLC : Hid (AC.length ≤ 81) := Lib.hid (by rw [← hAC]; simp; omega)
  have HLW : Hid (WW.length ≤ 122) := Lib.hid (by rw [← hWW]; simp; omega)
  have HAD := Lib.hid hAD
  have HAC := Lib.hid hAC
  have HWW := Lib.hid hWW
  have HDC := Lib.hid hDC
  have HF1 := Lib.hid hF1
  have HARD := Lib.hid (fun W (hW : Below w0.heap.size w0 W) => arrowC2 W (ha.below hW) (hd.below hW) (by omega) (by omega))
  have HARC := Lib.hid (fun W (hW : Below w0.heap.size w0 W) => arrowC2 W (ha.below hW) (hx.below hW) (by omega) (by omega))
  have HARW := Lib.hid (fun W (hW : Below w0.heap.size w0 W) => arrowC3 W (ha.below hW) (hd.below hW) (hx.below hW) (by omega) (by omega) (by omega))
  rw [hAD] at HARD
  rw [hAC] at HARC
  rw [hWW] at HARW
  clear h hb ha hx hd hAD hAC hWW hDC hF1 hb1 hcs
  go_enter Tryz.func52, Tryz.ntmps52
  go_upto_region 1 with fail
  obtain ⟨w1, hw1⟩ : ∃ W, W = w.alloc (.cells #[.int .i64 r, .int .i64 (f : Int), .int .i64 (s : Int), .slice Ax xs.length cx] 46) := ⟨_, rfl⟩
  rw [← hw1] at h1 hp0 HB1 ⊢
  obtain ⟨p, hp⟩ : ∃ p, w.heap.size = p := ⟨_, rfl⟩
  rw [hp] at h1 hp0 ⊢
  clear hw1 hp HB HH0
  generalize fz c p = c1 at *
  have d0 := h1.blk.cell 0
  have ld := h1.blk.lt
  have p3 : w1.cell? ⟨p, 3, none⟩ = some (.slice Ax xs.length cx) := (hp0.1.cell 3).trans (by rw [HCS.out]; rfl)
  have lp := hp0.1.lt
  have H1 := Lib.hid h1
  have HP1 := Lib.hid hp0
  clear h1 hp0
  go_quiet (fail)
  have hbd : Below w1.heap.size w1 (w1.drewN nq) := below_drewN (Below.refl _ _) nq
  have H2 := Lib.hid (H1.out.go hbd)
  have HP2 := Lib.hid (HP1.out.go hbd)
  have HB2 := Lib.hid (HB1.out.trans (hbd.mono HB1.out.size))
  generalize fz c1 w1.heap.size = c2 at *
  obtain ⟨w2, hw2⟩ : ∃ W, W = w1.drewN nq := ⟨_, rfl⟩
  rw [← hw2] at H2 HP2 HB2 ⊢
  clear hw2 hbd d0 ld p3 lp H1 HP1 HB1 HA HX HD
  have AR := Lib.hid (HARD.out w2 HB2.out)
  go_wp2_with fail
  refine AR.out.mono ?_
  rintro e w3 ⟨rD, rfl, ho3, hb3⟩
  obtain ⟨A3, c3, rfl⟩ := ho3.opn
  have HO3 := Lib.hid ho3
  have HB3 := Lib.hid hb3
  have AR3 := Lib.hid (HARC.out w3 (HB2.out.trans (hb3.mono HB2.out.size)))
  clear ho3 hb3 AR
  go_wp2_with fail
  refine AR3.out.mono ?_
  rintro e w4 ⟨rC, rfl, ho4, hb4⟩
  obtain ⟨A4, c4, rfl⟩ := ho4.opn
  have hb24 := HB3.out.trans (hb4.mono HB3.out.size)
  have H4 := Lib.hid (H2.out.go hb24)
  have HP4 := Lib.hid (HP2.out.go hb24)
  have HB4 := Lib.hid (HB2.out.trans (hb24.mono HB2.out.size))
  have HZ2 := Lib.hid HB2.out.size
  have FD4 : Hid (FrW w0.heap.size (fz c2 w2.heap.size) w4 (.slice A3 AD.length c3) AD) := Lib.hid ⟨(HO3.out.mono HZ2.out).below hb4, fun k e => fz_ge (HO3.out.block k e).1⟩
  have FC4 : Hid (FrW w0.heap.size (fz c2 w2.heap.size) w4 (.slice A4 AC.length c4) AC) := Lib.hid ⟨ho4.mono (Nat.le_trans HZ2.out HB3.out.size), fun k e => fz_ge (Nat.le_trans HB3.out.size (ho4.block k e).1)⟩
  have AR4 := Lib.hid (HARW.out w4 HB4.out)
  generalize fz c2 w2.heap.size = cc4 at *
  clear ho4 hb4 hb24 AR3 HO3 HB3 H2 HP2 HB2 HZ2
  go_wp2_with fail
  refine AR4.out.mono ?_
  rintro e w5 ⟨rW, rfl, ho5, hb5⟩
  obtain ⟨A5, c5, rfl⟩ := ho5.opn
  have HB5 := Lib.hid hb5
  have AR5 := Lib.hid (arrowC3 w5 ho5.sl (FD4.out.go hb5).1.sl (FC4.out.go hb5).1.sl (by have := HLW.out; omega) (by have := HLD.out; omega) (by have := HLC.out; omega))
  rw [HF1.out] at AR5
  clear ho5 hb5 AR4
  go_wp2_with fail
  refine AR5.out.mono ?_
  rintro e w6 ⟨r6, rfl, ho6, hb6⟩
  obtain ⟨A6, c6, rfl⟩ := ho6.opn
  have AK := Lib.hid (impl_addK H4.out (HB5.out.trans (hb6.mono HB5.out.size)) (ho6.mono HB5.out.size) 1 1 0 (by omega))
  clear ho6 hb6 AR5 HB5
  go_wp2_with fail
  refine AK.out.mono ?_
  rintro e w7 ⟨rfl, vl7, c7, h7, hc7, hk7, hb7⟩
  obtain ⟨L1, hL1⟩ : ∃ L, ls ++ [(⟨1, 1, 0, F1⟩ : Ln)] = L := ⟨_, rfl⟩
  have HL1 : Hid (L1.length = ls.length + 1) := Lib.hid (by rw [← hL1]; simp)
  rw [hL1] at h7
  have HL := Lib.hid hL1
  have H7 := Lib.hid h7
  have FD7 := Lib.hid (FD4.out.kpc hk7 (fun k e => by omega) hc7)
  have FC7 := Lib.hid (FC4.out.kpc hk7 (fun k e => by omega) hc7)
  have HP7 := Lib.hid (HP4.out.kps hk7 (fun k e => by omega) hc7)
  have HB7 := Lib.hid (HB4.out.trans hb7)
  clear hL1 h7 hc7 hk7 hb7 AK H4 FD4 FC4 HP4 HB4
  go_upto_region 4 with fail
  have hbd : Below w7.heap.size w7 w7.drew := (Below.refl _ _).drew
  have H8 := Lib.hid (H7.out.go hbd)
  have FD8 := Lib.hid (FD7.out.go hbd)
  have FC8 := Lib.hid (FC7.out.go hbd)
  have HP8 := Lib.hid (HP7.out.go hbd)
  have HB8 := Lib.hid (HB7.out.trans (hbd.mono HB7.out.size))
  generalize fz c7 w7.heap.size = c8 at *
  have hq1 : cs[1]? = some (.int .i64 (f : Int)) := by rw [HCS.out]; rfl
  have hq2 : cs[2]? = some (.int .i64 (s : Int)) := by rw [HCS.out]; rfl
  have i7 := (H8.out.iw HP8.out hq1 hf).1
  obtain ⟨y, hy⟩ : ∃ y, im[f] = y := ⟨_, rfl⟩
  have HY := Lib.hid hy
  have HQ1 := Lib.hid hq1
  have HQ2 := Lib.hid hq2
  rw [hy] at i7
  clear hbd hy hq1 hq2 H7 FD7 FC7 HP7 HB7
  refine wp_region_sched (IW g p ib io im.length ci 1 f y) 15 [0, 1, 2, 3, 4, 5, 6, 7, 8, 9, 10, 11] [0, 1, 2, 3, 4, 5, 6, 7, 8, 9, 10, 11, 12, 13, 14] (by kernel_rfl) (by kernel_rfl) i7 ?_
  obtain ⟨w8, hw8⟩ : ∃ W, W = w7.drew := ⟨_, rfl⟩
  rw [← hw8] at H8 FD8 FC8 HP8 HB8 i7 ⊢
  clear hw8
  repeat
    apply wpSched_q rfl rfl
    case h =>
      intro w' hI K hK
      obtain ⟨z3, z1, zf⟩ := hI
      simp only [quietV, stillV]
      go_simp
      exact hK
    go_simp
  have g8 := H8.out.blk.lt
  have p8 := HP8.out.1.lt
  have b8 := (H8.out.iw HP8.out HQ1.out hf).2
  have AR8 := Lib.hid (arrowC2 w8 FD8.out.1.sl FC8.out.1.sl (by have := HLD.out; omega) (by have := HLC.out; omega))
  rw [HDC.out] at AR8
  refine wpSched_r rfl rfl ?_ i7
  intro K hK hI
  go_simp
  have jk := i7.below (below_alloc' w8 (.cells #[.slice A3 AD.length c3, .slice A4 AC.length c4] 44)) g8 p8 b8
  refine hK _ _ jk ?_
  clear hK K hI
  refine wpSched_r rfl rfl ?_ jk
  intro K hK hI
  go_simp
  refine AR8.out.mono ?_
  rintro e w9 ⟨r9, rfl, ho9, hb9⟩
  obtain ⟨A9, c9, rfl⟩ := ho9.opn
  have i9 := i7.below hb9 g8 p8 b8
  have AK := Lib.hid (impl_addK H8.out hb9 ho9 3 ls.length y (by have := HL1.out; omega))
  refine hK _ _ i9 ?_
  clear hK K hI jk AR8 ho9 hb9
  refine wpSched_r rfl rfl ?_ i9
  intro K hK hI
  go_simp
  refine AK.out.mono ?_
  rintro e w10 ⟨rfl, vl10, c10, h10, hc10, hk10, hb10⟩
  have FC10 := Lib.hid (FC8.out.kpc hk10 (fun k e => by omega) hc10)
  have HP10 := Lib.hid (HP8.out.kps hk10 (fun k e => by omega) hc10)
  have HB10 := Lib.hid (HB8.out.trans hb10)
  have i10 := (h10.iw HP10.out HQ1.out hf).1
  rw [HY.out] at i10
  refine hK _ _ i10 ?_
  clear hK K hI
  obtain ⟨L2, hL2⟩ : ∃ L, L1 ++ [(⟨3, ls.length, y, DC⟩ : Ln)] = L := ⟨_, rfl⟩
  have HL2 : Hid (L2.length = ls.length + 2) := Lib.hid (by rw [← hL2, List.length_append, HL1.out]; rfl)
  rw [hL2] at h10
  have HLb := Lib.hid hL2
  have H10 := Lib.hid h10
  have HSZ := Lib.hid (show w0.heap.size ≤ w10.heap.size by have := h10.gB; have := h10.blk.lt; omega)
  obtain ⟨q1, hq1⟩ : ∃ q : Int, (L1.length : Int) = q := ⟨_, rfl⟩
  have HN1 : Hid (q1 = ((ls.length + 1 : Nat) : Int)) := Lib.hid (by rw [← hq1, HL1.out])
  rw [hq1]
  clear i10 i9 i7 hc10 hk10 hb10 AK H8 FD8 FC8 HP8 HB8 g8 p8 b8 hL2 hq1
  obtain ⟨As, cs9, rfl⟩ := h10.se_.opn
  have d2 := h10.blk.cell 2
  have ld := h10.blk.lt
  clear h10
  refine wpSched_nil ?_
  try simp only [List.drop_succ_cons, List.drop_zero, List.drop_nil]
  go_wp2_with (at_builtin; refine stopHere ?_)
  refine goHere ?_
  refine ap_one (K := cI) w10 ty_int64 rfl _ _ rfl (B := w0.heap.size) (v := .slice As se.length cs9) (xs := se) rfl H10.out.se_ (-1) rfl rfl (by omega) HSZ.out ?_
  intro v13 w13 ho13 hg13 hb13 hat13
  obtain ⟨hbk, hbs, c13, h13, hcc13, hk13⟩ := H10.out.addS _ w13 v13 (-1) hg13 ho13 hat13
  have HB13 := Lib.hid (HB10.out.trans (H10.out.toB hk13 fun k e => by omega))
  have FC13 : Hid (FrW w0.heap.size c13 (w13.setCell ⟨g, 2, none⟩ v13) (.slice A4 AC.length c4) AC) := Lib.hid (FC10.out.kpc hk13 (fun k e => by omega) hcc13)
  have HP13 : Hid (FbW c13 (w13.setCell ⟨g, 2, none⟩ v13) p cs) := Lib.hid (HP10.out.kps hk13 (fun k e => by omega) hcc13)
  have H13 := Lib.hid h13
  have d2' := hbk.cell 2
  have f2' := hbk.frozen 2
  have ld' := hbk.lt
  obtain ⟨A3, cc3, rfl⟩ := ho13.opn
  generalize (se ++ [-1]).length = n3 at *
  clear hbs ho13 hg13 hb13 hat13 hbk h13 hk13 hcc13 d2
  go_upto_region 6 with fail
  obtain ⟨w14, hw14⟩ : ∃ W, W = w13.setCell ⟨g, 2, none⟩ (.slice A3 n3 cc3) := ⟨_, rfl⟩
  rw [← hw14] at H13 HB13 FC13 HP13 ⊢
  clear hw14 d2' f2' ld' ld H10 FC10 HP10 HB10
  have hbd : Below w14.heap.size w14 w14.drew := (Below.refl _ _).drew
  have H4 := Lib.hid (H13.out.go hbd)
  have HF4 := Lib.hid (FC13.out.go hbd)
  have HP4 := Lib.hid (HP13.out.go hbd)
  have HB4 := Lib.hid (HB13.out.trans (hbd.mono HB13.out.size))
  generalize fz c13 w14.heap.size = c14 at *
  have i3 : w14.drew.cell? ⟨g, 3, none⟩ = some (.slice (some ⟨ib, io, none⟩) im.length ci) ∧ w14.drew.cell? ⟨p, 2, none⟩ = some (.int .i64 (s : Int)) := ⟨H4.out.blk.cell 3, (HP4.out.1.cell 2).trans HQ2.out⟩
  refine wp_region_sched (fun X => X.cell? ⟨g, 3, none⟩ = some (.slice (some ⟨ib, io, none⟩) im.length ci) ∧ X.cell? ⟨p, 2, none⟩ = some (.int .i64 (s : Int))) 19 [0, 1, 2, 3, 4, 5, 6, 7, 8, 9, 10, 11, 12, 13, 15] [0, 1, 2, 3, 4, 5, 6, 7, 8, 9, 10, 11, 12, 13, 15, 14, 16, 17, 18] (by kernel_rfl) (by kernel_rfl) i3 ?_
  obtain ⟨w15, hw15⟩ : ∃ W, W = w14.drew := ⟨_, rfl⟩
  rw [← hw15] at H4 HF4 HP4 HB4 i3 ⊢
  clear hw15 hbd H13 FC13 HP13 HB13
  repeat
    apply wpSched_q rfl rfl
    case h =>
      intro w' hI K hK
      obtain ⟨z3, z2⟩ := hI
      simp only [quietV, stillV]
      go_simp
      exact hK
    go_simp
  have zz := H4.out.iw HP4.out HQ2.out hs
  obtain ⟨y2, hy2⟩ : ∃ y, im[s] = y := ⟨_, rfl⟩
  have HY2 := Lib.hid hy2
  rw [hy2] at zz
  have zf := zz.1.2.2
  have zb := zz.2
  clear zz hy2
  have HAD15 := Lib.hid (impl_add H4.out HF4.out.1 HF4.out.2 3 q1 y2 (by have := HL2.out; omega))
  refine wpSched_r rfl rfl ?_ i3
  intro K hK hI
  go_simp
  refine hK _ _ i3 ?_
  clear hK K hI zf zb
  refine wpSched_r rfl rfl ?_ i3
  intro K hK hI
  go_simp
  refine HAD15.out.mono ?_
  rintro e w16 ⟨rfl, vl16, c16, h16, hc16, hk16⟩
  have HB16 := Lib.hid (HB4.out.trans (H4.out.toB hk16 fun k e => by omega))
  have k3 : w16.cell? ⟨g, 3, none⟩ = some (.slice (some ⟨ib, io, none⟩) im.length ci) ∧ w16.cell? ⟨p, 2, none⟩ = some (.int .i64 (s : Int)) :=
    ⟨h16.blk.cell 3, ((HP4.out.1.kps hk16 (fun e => by have := HP4.out.2; omega)).cell 2).trans HQ2.out⟩
  have lp16 : p < w16.heap.size := Nat.lt_of_lt_of_le HP4.out.1.lt hk16.size
  refine hK _ _ k3 ?_
  clear hK K hI
  refine wpSched_r rfl rfl ?_ k3
  intro K hK hI
  go_simp
  obtain ⟨q, hq⟩ : ∃ q : Int, (L2.length : Int) = q := ⟨_, rfl⟩
  have HQ : Hid (q = (ls.length : Int) + 2) := Lib.hid (by rw [← hq, HL2.out]; rfl)
  rw [hq]
  have jk : (w16.alloc (.cells #[.int .i64 q] 2)).cell? ⟨g, 3, none⟩ = some (.slice (some ⟨ib, io, none⟩) im.length ci) ∧ (w16.alloc (.cells #[.int .i64 q] 2)).cell? ⟨p, 2, none⟩ = some (.int .i64 (s : Int)) :=
    ⟨((below_alloc' w16 _).cell (p := ⟨g, 3, none⟩) h16.blk.lt).trans k3.1, ((below_alloc' w16 _).cell (p := ⟨p, 2, none⟩) lp16).trans k3.2⟩
  refine hK _ _ jk ?_
  clear hK K hI
  refine wpSched_r rfl rfl ?_ jk
  intro K hK hI
  refine step_oneS (K := cI) w16 ty_int64 rfl _ _ rfl (B := w0.heap.size) (v := .slice (some ⟨ib, io, none⟩) im.length ci) (xs := im) (by simp [Act.eval, Act.put]; done) h16.im_ q rfl (by simp [Act.eval, Act.put]; done) (by omega) (by have := h16.gB; have := h16.blk.lt; omega) ?_
  intro v17 w17 ho17 hg17 hb17 hat17
  obtain ⟨hbk, hbs, c17, h17, hc17, hk17⟩ := h16.addI _ w17 v17 q hg17 ho17 hat17
  have z17 : w17.cell? ⟨p, 2, none⟩ = some (.int .i64 (s : Int)) := hg17.cell jk.2 fun e => by
    have e1 : some p = some ib := e
    injection e1 with e1
    have h1 := H4.out.ci ib rfl
    have h2 := HP4.out.2
    rw [e1] at h2
    omega
  obtain ⟨A9, cc9, rfl⟩ := ho17.opn
  generalize (im ++ [q]).length = n9 at *
  refine hK _ _ ⟨hbk.cell 3, z17⟩ ?_
  clear hK K hI
  have HB17 := Lib.hid (HB16.out.trans (h16.toB hk17 fun k e => by omega))
  have HBK := Lib.hid hbk
  have HLL : Hid (ls ++ dtLs a ds xs ls.length y y2 = L2 ++ [⟨3, q1, y2, AC⟩]) := Lib.hid (by
    unfold dtLs
    dsimp only
    rw [HAD.out, HAC.out, HWW.out, HF1.out, HDC.out, HN1.out, ← HLb.out, ← HL.out]
    simp [List.append_assoc])
  rw [← HLL.out, HQ.out] at h17
  have H17 := Lib.hid h17
  clear h17 hbk hbs hk17 ho17 hg17 hb17 hat17 jk k3 hq h16 hk16 HAD15 i3 z17 lp16 hc16 hc17
  refine wpSched_nil ?_
  try simp only [List.drop_succ_cons, List.drop_zero, List.drop_nil]
  have e0 := HBK.out.cell 3
  have e1 := HBK.out.frozen 3
  have e2 := HBK.out.lt
  go_wp2
  go_end0
  rw [HY.out, HY2.out]
  exact ⟨rfl, _, _, _, c17, H17.out, HB17.out⟩
end Go.Proofs.YtcikenffeekkeaaGreatDoor

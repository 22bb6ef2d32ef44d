/- The discharger: the lines for a line of the proof. Written by gen13Z.py. -/
import Derived.Test.YtcikenffeekkeaaGreatDoorY46
import Derived.Test.YtcikenffeekkeaaGreatDoorY47
namespace Go.Proofs.YtcikenffeekkeaaGreatDoor
open Go.RowKit
set_option linter.unusedVariables false
set_option linter.unusedSimpArgs false
theorem q_size_nds (A : Option Addr) (n c : Nat) (W : World) (k : Nat) :
    Calls Tryz.prog 49 #[.slice A n c] (W.drewN k) fun e w'' => e = .returned (.int .i64 n) ∧ ∃ m, w'' = W.drewN m :=
  (impl_size_nds A n c _).mono fun e w' hh => ⟨hh.1, k, hh.2.symm⟩
set_option maxRecDepth 100000 in
set_option maxHeartbeats 4000000 in
theorem impl_line_det {g D : Nat} {c : Nat → Nat} {va vl vs vi vh vP vu : Value} {ls : List Ln} {se im : List Int} {w0 w : World} {t : List UInt8} {hy : List (List Nd)} {P : List Ln} {em : List Bool} {a xs : List Nd} {k : Nat}
    (h : DsM w0.heap.size g c va vl vs vi ls se im w) (hb : Below w0.heap.size w0 w) (hD : Blk w0 D 85 #[.string ⟨⟨t⟩⟩, vh, vP, vu]) (hH : ∃ A c, vh = .slice A hy.length c) (hhl : hy.length ≤ 1048576) (hP : SlL w0 vP P) (hPl : P.length ≤ 200) (hU : UsR w0 vu em) (hel : em.length = P.length) (hk : k < P.length)
    (ha : Sl cN w0 va a) (hla : a.length ≤ 40) (hxs : ∀ l ∈ P, l.x.length ≤ 40) (hl : ls.length ≤ 995) (hse : se.length ≤ 200) (him : im.length ≤ 200)
    (f s : Nat) (hPk : P[k] = ⟨3, f, s, xs⟩) (hem : em[k] = true) (hf : f < im.length) (hs : s < im.length) (hsP : s < P.length) :
    Calls Tryz.prog 23 #[.pointer (some ⟨g, 0, none⟩), .pointer (some ⟨D, 0, none⟩), .int .i64 (k : Int)] w fun e w' => e = .returned (.tuple #[]) ∧ ∃ vl' vs' vi' c',
      DsM w0.heap.size g c' va vl' vs' vi' (ls ++ dtLs a (P[s]).x xs ls.length im[f] im[s]) (se ++ [-1]) (im ++ [(ls.length : Int) + 2]) w' ∧ Below w0.heap.size w0 w' := by
  have hlx := hxs _ (List.getElem_mem hk)
  rw [hPk] at hlx
  simp only at hlx
  have HXS := Lib.hid hxs
  have HPA := Lib.hid hP
  have HA := Lib.hid ha
  have hwz := hb.size
  obtain ⟨AP, cP', rfl⟩ := hP.opn
  obtain ⟨AU, cU, rfl⟩ := hU.opn
  obtain ⟨Ah, ch, rfl⟩ := hH
  obtain ⟨bL, oL, Ax, cx, rfl, hbL, l0, l1, l2, l3, hsx⟩ := hP.at_ hk
  obtain ⟨bU, oU, Au, nu, cu, rfl, hbU, u0, hnu⟩ := hU.at_ (k := k) (by omega)
  rw [hem] at hnu
  have hkU : k < em.length := by omega
  rw [hPk] at l0 l1 l2 l3 hsx
  simp only at l0 l1 l2 l3 hsx
  have l0 := (hb.cell (p := ⟨bL, oL + k * 4, none⟩) hbL).trans l0
  have l1 := (hb.cell (p := ⟨bL, oL + k * 4 + 1, none⟩) hbL).trans l1
  have l2 := (hb.cell (p := ⟨bL, oL + k * 4 + 2, none⟩) hbL).trans l2
  have l3 := (hb.cell (p := ⟨bL, oL + k * 4 + 3, none⟩) hbL).trans l3
  have u0 := (hb.cell (p := ⟨bU, oU + k, none⟩) hbU).trans u0
  have HX := Lib.hid hsx
  have HDD := Lib.hid hD
  have d1 : w.cell? ⟨D, 1, none⟩ = some (.slice Ah hy.length ch) := (hb.cell (p := ⟨D, 1, none⟩) hD.lt).trans (hD.cell 1)
  have d2 : w.cell? ⟨D, 2, none⟩ = some (.slice (some ⟨bL, oL, none⟩) P.length cP') := (hb.cell (p := ⟨D, 2, none⟩) hD.lt).trans (hD.cell 2)
  have d3 : w.cell? ⟨D, 3, none⟩ = some (.slice (some ⟨bU, oU, none⟩) em.length cU) := (hb.cell (p := ⟨D, 3, none⟩) hD.lt).trans (hD.cell 3)
  have hDl : D < w.heap.size := Nat.lt_of_lt_of_le hD.lt hwz
  have hbL' : bL < w.heap.size := Nat.lt_of_lt_of_le hbL hwz
  have hbU' : bU < w.heap.size := Nat.lt_of_lt_of_le hbU hwz
  have HDl := Lib.hid hD.lt
  have HbL := Lib.hid hbL
  obtain ⟨cs, hcs⟩ : ∃ cs : Array Value, cs = #[.int .i64 3, .int .i64 (f : Int), .int .i64 (s : Int), .slice Ax xs.length cx] := ⟨_, rfl⟩
  have HCS := Lib.hid hcs
  have hb1 := below_alloc' w (.cells #[.int .i64 3, .int .i64 (f : Int), .int .i64 (s : Int), .slice Ax xs.length cx] 46)
  have hp0 : FbW (fz c w.heap.size) (w.alloc (.cells #[.int .i64 3, .int .i64 (f : Int), .int .i64 (s : Int), .slice Ax xs.length cx] 46)) w.heap.size cs := ⟨by rw [hcs]; exact Blk.new w 46 _, fz_ge (Nat.le_refl _)⟩
  have h1 := h.go hb1
  have HB1 := Lib.hid (hb.trans (hb1.mono hb.size))
  have HBW := Lib.hid (hb1)
  clear h hb hP hU hsx hD ha hxs hcs hb1 hwz hbL hbU hPk hem
  go_enter Tryz.func23, Tryz.ntmps23
  go_upto_region 5 with fail
  obtain ⟨w1, hw1⟩ : ∃ W, W = w.alloc (.cells #[.int .i64 3, .int .i64 (f : Int), .int .i64 (s : Int), .slice Ax xs.length cx] 46) := ⟨_, rfl⟩
  rw [← hw1] at h1 hp0 HB1 HBW ⊢
  obtain ⟨p, hp⟩ : ∃ p, w.heap.size = p := ⟨_, rfl⟩
  rw [hp] at h1 hp0 HBW ⊢
  have HPE := Lib.hid hp
  clear hw1 hp
  generalize fz c p = c1 at *
  have H1 := Lib.hid h1
  have HP1 := Lib.hid hp0
  clear h1 hp0 d1 d2 d3 l0 l1 l2 l3 u0 hDl hbL' hbU'
  have p0 : w1.cell? ⟨p, 0, none⟩ = some (.int .i64 3) := (HP1.out.1.cell 0).trans (by rw [HCS.out]; rfl)
  have p1 : w1.cell? ⟨p, 1, none⟩ = some (.int .i64 (f : Int)) := (HP1.out.1.cell 1).trans (by rw [HCS.out]; rfl)
  have p2 : w1.cell? ⟨p, 2, none⟩ = some (.int .i64 (s : Int)) := (HP1.out.1.cell 2).trans (by rw [HCS.out]; rfl)
  have p3 : w1.cell? ⟨p, 3, none⟩ = some (.slice Ax xs.length cx) := (HP1.out.1.cell 3).trans (by rw [HCS.out]; rfl)
  have lp : p < w1.heap.size := HP1.out.1.lt
  go_quiet (fail)
  have hbd1 : Below w1.heap.size w1 (w1.drewN nq) := below_drewN (Below.refl _ _) nq
  have H2 := Lib.hid (H1.out.go hbd1)
  have HP2 := Lib.hid (HP1.out.go hbd1)
  have HB2 := Lib.hid (HB1.out.trans (hbd1.mono HB1.out.size))
  generalize fz c1 w1.heap.size = c2 at *
  obtain ⟨w2, hw2⟩ : ∃ W, W = w1.drewN nq := ⟨_, rfl⟩
  rw [← hw2] at H2 HP2 HB2 ⊢
  clear hw2 hbd1 H1 HP1 HB1
  clear p0 p1 p2 p3 lp
  have p0 : w2.cell? ⟨p, 0, none⟩ = some (.int .i64 3) := (HP2.out.1.cell 0).trans (by rw [HCS.out]; rfl)
  have p1 : w2.cell? ⟨p, 1, none⟩ = some (.int .i64 (f : Int)) := (HP2.out.1.cell 1).trans (by rw [HCS.out]; rfl)
  have p2 : w2.cell? ⟨p, 2, none⟩ = some (.int .i64 (s : Int)) := (HP2.out.1.cell 2).trans (by rw [HCS.out]; rfl)
  have p3 : w2.cell? ⟨p, 3, none⟩ = some (.slice Ax xs.length cx) := (HP2.out.1.cell 3).trans (by rw [HCS.out]; rfl)
  have lp : p < w2.heap.size := HP2.out.1.lt
  go_upto_region 1 with fail
  have HX2 := Lib.hid hsP
  obtain ⟨bL2, oL2, Ad, cd, e2, hbL2, -, -, -, l3, hsd⟩ := HPA.out.at_ hsP
  injection e2 with e2
  injection e2 with q1 q2
  subst q1 q2
  have lds := HXS.out _ (List.getElem_mem hsP)
  have HDS := Lib.hid hsd
  obtain ⟨ds, hds⟩ : ∃ x, (P[s]'hsP).x = x := ⟨_, rfl⟩
  rw [hds] at l3 HDS lds
  have HDE := Lib.hid hds
  clear hds
  have l3 := (HB2.out.cell (p := ⟨bL, oL + s * 4 + 3, none⟩) hbL2).trans l3
  have d2 : w2.cell? ⟨D, 2, none⟩ = some (.slice (some ⟨bL, oL, none⟩) P.length cP') := (HB2.out.cell (p := ⟨D, 2, none⟩) HDl.out).trans (HDD.out.cell 2)
  have ld : D < w2.heap.size := Nat.lt_of_lt_of_le HDl.out HB2.out.size
  have lL : bL < w2.heap.size := Nat.lt_of_lt_of_le HbL.out HB2.out.size
  clear hbL2 hsd
  refine wp_region_sched (Below w2.heap.size w2) 11 [0, 1, 2, 3, 4, 5, 6, 7, 8, 9, 10] [0, 1, 2, 3, 4, 5, 6, 7, 8, 9, 10] (by kernel_rfl) (by kernel_rfl) (Below.refl _ _).drew ?_
  repeat
    apply wpSched_q rfl rfl
    case h =>
      intro w' hI K hK
      have p0' := (hI.cell (p := ⟨p, 0, none⟩) lp).trans p0
      have p1' := (hI.cell (p := ⟨p, 1, none⟩) lp).trans p1
      have p2' := (hI.cell (p := ⟨p, 2, none⟩) lp).trans p2
      have p3' := (hI.cell (p := ⟨p, 3, none⟩) lp).trans p3
      have d2' := (hI.cell (p := ⟨D, 2, none⟩) ld).trans d2
      have l3' := (hI.cell (p := ⟨bL, oL + s * 4 + 3, none⟩) lL).trans l3
      simp only [quietV, stillV]
      go_simp
      exact hK
    go_simp
  refine wpSched_nil ?_
  try simp only [List.drop_succ_cons, List.drop_zero, List.drop_nil]
  have hb2 : Below w2.heap.size w2 w2.drew := (Below.refl _ _).drew
  have HDT := Lib.hid (impl_detach (H2.out.below hb2) (HB2.out.trans (hb2.mono HB2.out.size)) HA.out HX.out HDS.out 3 f s hf hs hla hlx lds (by omega) hse him)
  clear p0 p1 p2 p3 lp l3 d2 ld lL hb2
  go_wp2_with fail
  refine HDT.out.mono ?_
  rintro e w3 ⟨rfl, hq⟩
  have HQ := Lib.hid hq
  clear hq HDT
  go_wp2
  go_end0
  rw [HDE.out]
  exact ⟨rfl, HQ.out⟩
set_option maxRecDepth 100000 in
set_option maxHeartbeats 4000000 in
theorem impl_line_last {g D : Nat} {c : Nat → Nat} {va vl vs vi vh vP vu : Value} {ls : List Ln} {se im : List Int} {w0 w : World} {t : List UInt8} {hy : List (List Nd)} {P : List Ln} {em : List Bool} {a xs : List Nd} {k : Nat}
    (h : DsM w0.heap.size g c va vl vs vi ls se im w) (hb : Below w0.heap.size w0 w) (hD : Blk w0 D 85 #[.string ⟨⟨t⟩⟩, vh, vP, vu]) (hH : ∃ A c, vh = .slice A hy.length c) (hhl : hy.length ≤ 1048576) (hP : SlL w0 vP P) (hPl : P.length ≤ 200) (hU : UsR w0 vu em) (hel : em.length = P.length) (hk : k < P.length)
    (ha : Sl cN w0 va a) (hla : a.length ≤ 40) (hxs : ∀ l ∈ P, l.x.length ≤ 40) (hl : ls.length ≤ 995) (hse : se.length ≤ 200) (him : im.length ≤ 200)
    (f s : Int) (hPk : P[k] = ⟨2, f, s, xs⟩) (hem : em[k] = true) (hf : f = (hy.length : Int) - 1) :
    Calls Tryz.prog 23 #[.pointer (some ⟨g, 0, none⟩), .pointer (some ⟨D, 0, none⟩), .int .i64 (k : Int)] w fun e w' => e = .returned (.tuple #[]) ∧ ∃ vl' vs' vi' c',
      DsM w0.heap.size g c' va vl' vs' vi' (ls ++ idLs a ls.length) (se ++ [-1]) (im ++ [(ls.length : Int) + 4]) w' ∧ Below w0.heap.size w0 w' := by
  have hlx := hxs _ (List.getElem_mem hk)
  rw [hPk] at hlx
  simp only at hlx
  have HXS := Lib.hid hxs
  have HPA := Lib.hid hP
  have HA := Lib.hid ha
  have hwz := hb.size
  obtain ⟨AP, cP', rfl⟩ := hP.opn
  obtain ⟨AU, cU, rfl⟩ := hU.opn
  obtain ⟨Ah, ch, rfl⟩ := hH
  obtain ⟨bL, oL, Ax, cx, rfl, hbL, l0, l1, l2, l3, hsx⟩ := hP.at_ hk
  obtain ⟨bU, oU, Au, nu, cu, rfl, hbU, u0, hnu⟩ := hU.at_ (k := k) (by omega)
  rw [hem] at hnu
  have hkU : k < em.length := by omega
  rw [hPk] at l0 l1 l2 l3 hsx
  simp only at l0 l1 l2 l3 hsx
  have l0 := (hb.cell (p := ⟨bL, oL + k * 4, none⟩) hbL).trans l0
  have l1 := (hb.cell (p := ⟨bL, oL + k * 4 + 1, none⟩) hbL).trans l1
  have l2 := (hb.cell (p := ⟨bL, oL + k * 4 + 2, none⟩) hbL).trans l2
  have l3 := (hb.cell (p := ⟨bL, oL + k * 4 + 3, none⟩) hbL).trans l3
  have u0 := (hb.cell (p := ⟨bU, oU + k, none⟩) hbU).trans u0
  have HX := Lib.hid hsx
  have HDD := Lib.hid hD
  have d1 : w.cell? ⟨D, 1, none⟩ = some (.slice Ah hy.length ch) := (hb.cell (p := ⟨D, 1, none⟩) hD.lt).trans (hD.cell 1)
  have d2 : w.cell? ⟨D, 2, none⟩ = some (.slice (some ⟨bL, oL, none⟩) P.length cP') := (hb.cell (p := ⟨D, 2, none⟩) hD.lt).trans (hD.cell 2)
  have d3 : w.cell? ⟨D, 3, none⟩ = some (.slice (some ⟨bU, oU, none⟩) em.length cU) := (hb.cell (p := ⟨D, 3, none⟩) hD.lt).trans (hD.cell 3)
  have hDl : D < w.heap.size := Nat.lt_of_lt_of_le hD.lt hwz
  have hbL' : bL < w.heap.size := Nat.lt_of_lt_of_le hbL hwz
  have hbU' : bU < w.heap.size := Nat.lt_of_lt_of_le hbU hwz
  have HDl := Lib.hid hD.lt
  have HbL := Lib.hid hbL
  obtain ⟨cs, hcs⟩ : ∃ cs : Array Value, cs = #[.int .i64 2, .int .i64 f, .int .i64 s, .slice Ax xs.length cx] := ⟨_, rfl⟩
  have HCS := Lib.hid hcs
  have hb1 := below_alloc' w (.cells #[.int .i64 2, .int .i64 f, .int .i64 s, .slice Ax xs.length cx] 46)
  have hp0 : FbW (fz c w.heap.size) (w.alloc (.cells #[.int .i64 2, .int .i64 f, .int .i64 s, .slice Ax xs.length cx] 46)) w.heap.size cs := ⟨by rw [hcs]; exact Blk.new w 46 _, fz_ge (Nat.le_refl _)⟩
  have h1 := h.go hb1
  have HB1 := Lib.hid (hb.trans (hb1.mono hb.size))
  have HBW := Lib.hid (hb1)
  have HFE := Lib.hid hf
  clear hf
  clear h hb hP hU hsx hD ha hxs hcs hb1 hwz hbL hbU hPk hem
  go_enter Tryz.func23, Tryz.ntmps23
  go_upto_region 5 with fail
  obtain ⟨w1, hw1⟩ : ∃ W, W = w.alloc (.cells #[.int .i64 2, .int .i64 f, .int .i64 s, .slice Ax xs.length cx] 46) := ⟨_, rfl⟩
  rw [← hw1] at h1 hp0 HB1 HBW ⊢
  obtain ⟨p, hp⟩ : ∃ p, w.heap.size = p := ⟨_, rfl⟩
  rw [hp] at h1 hp0 HBW ⊢
  have HPE := Lib.hid hp
  clear hw1 hp
  generalize fz c p = c1 at *
  have H1 := Lib.hid h1
  have HP1 := Lib.hid hp0
  clear h1 hp0 d1 d2 d3 l0 l1 l2 l3 u0 hDl hbL' hbU'
  have p0 : w1.cell? ⟨p, 0, none⟩ = some (.int .i64 2) := (HP1.out.1.cell 0).trans (by rw [HCS.out]; rfl)
  have p1 : w1.cell? ⟨p, 1, none⟩ = some (.int .i64 f) := (HP1.out.1.cell 1).trans (by rw [HCS.out]; rfl)
  have p2 : w1.cell? ⟨p, 2, none⟩ = some (.int .i64 s) := (HP1.out.1.cell 2).trans (by rw [HCS.out]; rfl)
  have p3 : w1.cell? ⟨p, 3, none⟩ = some (.slice Ax xs.length cx) := (HP1.out.1.cell 3).trans (by rw [HCS.out]; rfl)
  have lp : p < w1.heap.size := HP1.out.1.lt
  have hwr : IntKind.i64.wrap ((hy.length : Int) - 1) = (hy.length : Int) - 1 := IntWalk.i64_in _ ⟨by omega, by omega⟩
  have HQ := Lib.hid (fun m => q_size_nds Ah hy.length ch w1 m)
  have d1 : w1.cell? ⟨D, 1, none⟩ = some (.slice Ah hy.length ch) := (HB1.out.cell (p := ⟨D, 1, none⟩) HDl.out).trans (HDD.out.cell 1)
  have ld : D < w1.heap.size := Nat.lt_of_lt_of_le HDl.out HB1.out.size
  have hfe : (f == (hy.length : Int) - 1) = true := by simp [HFE.out]
  go_quiet ((go_at_call 49; exact HQ.out _))
  clear d1 ld HQ hwr
  have hbd1 : Below w1.heap.size w1 (w1.drewN nq) := below_drewN (Below.refl _ _) nq
  have H2 := Lib.hid (H1.out.go hbd1)
  have HP2 := Lib.hid (HP1.out.go hbd1)
  have HB2 := Lib.hid (HB1.out.trans (hbd1.mono HB1.out.size))
  generalize fz c1 w1.heap.size = c2 at *
  obtain ⟨w2, hw2⟩ : ∃ W, W = w1.drewN nq := ⟨_, rfl⟩
  rw [← hw2] at H2 HP2 HB2 ⊢
  clear hw2 hbd1 H1 HP1 HB1
  have HID := Lib.hid (impl_identity H2.out HB2.out HA.out hla (by omega) hse him)
  clear p0 p1 p2 p3 lp
  go_wp2_with fail
  refine HID.out.mono ?_
  rintro e w3 ⟨rfl, hq⟩
  have HQ := Lib.hid hq
  clear hq HID
  go_wp2
  go_end0
  exact ⟨rfl, HQ.out⟩
set_option maxRecDepth 100000 in
set_option maxHeartbeats 4000000 in
theorem impl_line_hyp {g D : Nat} {c : Nat → Nat} {va vl vs vi vh vP vu : Value} {ls : List Ln} {se im : List Int} {w0 w : World} {t : List UInt8} {hy : List (List Nd)} {P : List Ln} {em : List Bool} {a xs : List Nd} {k : Nat}
    (h : DsM w0.heap.size g c va vl vs vi ls se im w) (hb : Below w0.heap.size w0 w) (hD : Blk w0 D 85 #[.string ⟨⟨t⟩⟩, vh, vP, vu]) (hH : ∃ A c, vh = .slice A hy.length c) (hhl : hy.length ≤ 1048576) (hP : SlL w0 vP P) (hPl : P.length ≤ 200) (hU : UsR w0 vu em) (hel : em.length = P.length) (hk : k < P.length)
    (ha : Sl cN w0 va a) (hla : a.length ≤ 40) (hxs : ∀ l ∈ P, l.x.length ≤ 40) (hl : ls.length ≤ 995) (hse : se.length ≤ 200) (him : im.length ≤ 200)
    (f s : Int) (hPk : P[k] = ⟨2, f, s, xs⟩) (hem : em[k] = true) (hf : f ≠ (hy.length : Int) - 1) :
    Calls Tryz.prog 23 #[.pointer (some ⟨g, 0, none⟩), .pointer (some ⟨D, 0, none⟩), .int .i64 (k : Int)] w fun e w' => e = .returned (.tuple #[]) ∧ ∃ vl' vs' vi' c',
      DsM w0.heap.size g c' va vl' vs' vi' (ls ++ (⟨2, f, 0, xs⟩ :: wkLs a xs (ls.length + 1) ls.length)) (se ++ [(ls.length : Int)]) (im ++ [(ls.length : Int) + 2]) w' ∧ Below w0.heap.size w0 w' := by
  have hlx := hxs _ (List.getElem_mem hk)
  rw [hPk] at hlx
  simp only at hlx
  have HXS := Lib.hid hxs
  have HPA := Lib.hid hP
  have HA := Lib.hid ha
  have hwz := hb.size
  obtain ⟨AP, cP', rfl⟩ := hP.opn
  obtain ⟨AU, cU, rfl⟩ := hU.opn
  obtain ⟨Ah, ch, rfl⟩ := hH
  obtain ⟨bL, oL, Ax, cx, rfl, hbL, l0, l1, l2, l3, hsx⟩ := hP.at_ hk
  obtain ⟨bU, oU, Au, nu, cu, rfl, hbU, u0, hnu⟩ := hU.at_ (k := k) (by omega)
  rw [hem] at hnu
  have hkU : k < em.length := by omega
  rw [hPk] at l0 l1 l2 l3 hsx
  simp only at l0 l1 l2 l3 hsx
  have l0 := (hb.cell (p := ⟨bL, oL + k * 4, none⟩) hbL).trans l0
  have l1 := (hb.cell (p := ⟨bL, oL + k * 4 + 1, none⟩) hbL).trans l1
  have l2 := (hb.cell (p := ⟨bL, oL + k * 4 + 2, none⟩) hbL).trans l2
  have l3 := (hb.cell (p := ⟨bL, oL + k * 4 + 3, none⟩) hbL).trans l3
  have u0 := (hb.cell (p := ⟨bU, oU + k, none⟩) hbU).trans u0
  have HX := Lib.hid hsx
  have HDD := Lib.hid hD
  have d1 : w.cell? ⟨D, 1, none⟩ = some (.slice Ah hy.length ch) := (hb.cell (p := ⟨D, 1, none⟩) hD.lt).trans (hD.cell 1)
  have d2 : w.cell? ⟨D, 2, none⟩ = some (.slice (some ⟨bL, oL, none⟩) P.length cP') := (hb.cell (p := ⟨D, 2, none⟩) hD.lt).trans (hD.cell 2)
  have d3 : w.cell? ⟨D, 3, none⟩ = some (.slice (some ⟨bU, oU, none⟩) em.length cU) := (hb.cell (p := ⟨D, 3, none⟩) hD.lt).trans (hD.cell 3)
  have hDl : D < w.heap.size := Nat.lt_of_lt_of_le hD.lt hwz
  have hbL' : bL < w.heap.size := Nat.lt_of_lt_of_le hbL hwz
  have hbU' : bU < w.heap.size := Nat.lt_of_lt_of_le hbU hwz
  have HDl := Lib.hid hD.lt
  have HbL := Lib.hid hbL
  obtain ⟨cs, hcs⟩ : ∃ cs : Array Value, cs = #[.int .i64 2, .int .i64 f, .int .i64 s, .slice Ax xs.length cx] := ⟨_, rfl⟩
  have HCS := Lib.hid hcs
  have hb1 := below_alloc' w (.cells #[.int .i64 2, .int .i64 f, .int .i64 s, .slice Ax xs.length cx] 46)
  have hp0 : FbW (fz c w.heap.size) (w.alloc (.cells #[.int .i64 2, .int .i64 f, .int .i64 s, .slice Ax xs.length cx] 46)) w.heap.size cs := ⟨by rw [hcs]; exact Blk.new w 46 _, fz_ge (Nat.le_refl _)⟩
  have h1 := h.go hb1
  have HB1 := Lib.hid (hb.trans (hb1.mono hb.size))
  have HBW := Lib.hid (hb1)
  have HFE := Lib.hid hf
  clear hf
  clear h hb hP hU hsx hD ha hxs hcs hb1 hwz hbL hbU hPk hem
  go_enter Tryz.func23, Tryz.ntmps23
  go_upto_region 5 with fail
  obtain ⟨w1, hw1⟩ : ∃ W, W = w.alloc (.cells #[.int .i64 2, .int .i64 f, .int .i64 s, .slice Ax xs.length cx] 46) := ⟨_, rfl⟩
  rw [← hw1] at h1 hp0 HB1 HBW ⊢
  obtain ⟨p, hp⟩ : ∃ p, w.heap.size = p := ⟨_, rfl⟩
  rw [hp] at h1 hp0 HBW ⊢
  have HPE := Lib.hid hp
  clear hw1 hp
  generalize fz c p = c1 at *
  have H1 := Lib.hid h1
  have HP1 := Lib.hid hp0
  clear h1 hp0 d1 d2 d3 l0 l1 l2 l3 u0 hDl hbL' hbU'
  have p0 : w1.cell? ⟨p, 0, none⟩ = some (.int .i64 2) := (HP1.out.1.cell 0).trans (by rw [HCS.out]; rfl)
  have p1 : w1.cell? ⟨p, 1, none⟩ = some (.int .i64 f) := (HP1.out.1.cell 1).trans (by rw [HCS.out]; rfl)
  have p2 : w1.cell? ⟨p, 2, none⟩ = some (.int .i64 s) := (HP1.out.1.cell 2).trans (by rw [HCS.out]; rfl)
  have p3 : w1.cell? ⟨p, 3, none⟩ = some (.slice Ax xs.length cx) := (HP1.out.1.cell 3).trans (by rw [HCS.out]; rfl)
  have lp : p < w1.heap.size := HP1.out.1.lt
  have hwr : IntKind.i64.wrap ((hy.length : Int) - 1) = (hy.length : Int) - 1 := IntWalk.i64_in _ ⟨by omega, by omega⟩
  have HQ := Lib.hid (fun m => q_size_nds Ah hy.length ch w1 m)
  have d1 : w1.cell? ⟨D, 1, none⟩ = some (.slice Ah hy.length ch) := (HB1.out.cell (p := ⟨D, 1, none⟩) HDl.out).trans (HDD.out.cell 1)
  have ld : D < w1.heap.size := Nat.lt_of_lt_of_le HDl.out HB1.out.size
  have hfe : (f == (hy.length : Int) - 1) = false := by simp [HFE.out]
  go_quiet ((go_at_call 49; exact HQ.out _))
  clear d1 ld HQ hwr
  have hbd1 : Below w1.heap.size w1 (w1.drewN nq) := below_drewN (Below.refl _ _) nq
  have H2 := Lib.hid (H1.out.go hbd1)
  have HP2 := Lib.hid (HP1.out.go hbd1)
  have HB2 := Lib.hid (HB1.out.trans (hbd1.mono HB1.out.size))
  generalize fz c1 w1.heap.size = c2 at *
  obtain ⟨w2, hw2⟩ : ∃ W, W = w1.drewN nq := ⟨_, rfl⟩
  rw [← hw2] at H2 HP2 HB2 ⊢
  clear hw2 hbd1 H1 HP1 HB1
  clear p0 p1 p2 p3 lp hfe
  have p0 : w2.cell? ⟨p, 0, none⟩ = some (.int .i64 2) := (HP2.out.1.cell 0).trans (by rw [HCS.out]; rfl)
  have p1 : w2.cell? ⟨p, 1, none⟩ = some (.int .i64 f) := (HP2.out.1.cell 1).trans (by rw [HCS.out]; rfl)
  have p2 : w2.cell? ⟨p, 2, none⟩ = some (.int .i64 s) := (HP2.out.1.cell 2).trans (by rw [HCS.out]; rfl)
  have p3 : w2.cell? ⟨p, 3, none⟩ = some (.slice Ax xs.length cx) := (HP2.out.1.cell 3).trans (by rw [HCS.out]; rfl)
  have lp : p < w2.heap.size := HP2.out.1.lt
  go_upto_region 8 with fail
  clear p0 p1 p2 p3 lp
  have hbd : Below w2.heap.size w2 w2.drew := (Below.refl _ _).drew
  have H3 := Lib.hid (H2.out.go hbd)
  have HP3 := Lib.hid (HP2.out.go hbd)
  have HB3 := Lib.hid (HB2.out.trans (hbd.mono HB2.out.size))
  generalize fz c2 w2.heap.size = c3 at *
  have i3 := HP3.out.1
  refine wp_region_sched (fun X => Blk X p 46 cs) 12 [0, 1, 2, 3, 4, 5, 6, 7, 10, 11] [0, 1, 2, 3, 4, 5, 6, 7, 10, 11, 8, 9] (by kernel_rfl) (by kernel_rfl) i3 ?_
  obtain ⟨w3, hw3⟩ : ∃ W, W = w2.drew := ⟨_, rfl⟩
  rw [← hw3] at H3 HP3 HB3 i3 ⊢
  clear hw3 hbd H2 HP2 HB2
  repeat
    apply wpSched_q rfl rfl
    case h =>
      intro w' hI K hK
      have z0 : w'.cell? ⟨p, 0, none⟩ = some (.int .i64 2) := (hI.cell 0).trans (by rw [HCS.out]; rfl)
      have z1 : w'.cell? ⟨p, 1, none⟩ = some (.int .i64 f) := (hI.cell 1).trans (by rw [HCS.out]; rfl)
      have z3 : w'.cell? ⟨p, 3, none⟩ = some (.slice Ax xs.length cx) := (hI.cell 3).trans (by rw [HCS.out]; rfl)
      have zl := hI.lt
      simp only [quietV, stillV]
      go_simp
      exact hK
    go_simp
  have CL := Lib.hid (impl_clone _ xs w3 (HX.out.below HB3.out) (by omega))
  refine wpSched_r rfl rfl ?_ i3
  intro K hK hI
  go_simp
  refine CL.out.mono ?_
  rintro e w4 ⟨r4, rfl, ho4, hb4⟩
  obtain ⟨A4, c4, rfl⟩ := ho4.opn
  have AK := Lib.hid (impl_addK H3.out hb4 ho4 2 f 0 (by omega))
  have i4 : Blk w4 p 46 cs := i3.below hb4 i3.lt
  refine hK _ _ i4 ?_
  clear hK K hI CL ho4 hb4
  refine wpSched_r rfl rfl ?_ i4
  intro K hK hI
  go_simp
  refine AK.out.mono ?_
  rintro e w5 ⟨rfl, vl5, c5, h5, hc5, hk5, hb5⟩
  have i5 := (HP3.out.kps hk5 (fun k e => by omega) hc5).1
  refine hK _ _ i5 ?_
  clear hK K hI
  obtain ⟨L1, hL1⟩ : ∃ L, ls ++ [(⟨2, f, 0, xs⟩ : Ln)] = L := ⟨_, rfl⟩
  have HL1 : Hid (L1.length = ls.length + 1) := Lib.hid (by rw [← hL1]; simp)
  rw [hL1] at h5
  have HWK := Lib.hid (impl_weaken h5 (HB3.out.trans hb5) HA.out HX.out ls.length (by omega) (by omega) (by have := HL1.out; omega) hse him)
  have HLL : Hid (ls ++ (⟨2, f, 0, xs⟩ :: wkLs a xs (ls.length + 1) ls.length) = L1 ++ [⟨1, 0, 0, [(4, 0)] ++ xs ++ ([(4, 0)] ++ a ++ xs)⟩, ⟨3, L1.length, ls.length, [(4, 0)] ++ a ++ xs⟩]) := Lib.hid (by
    rw [HL1.out, ← hL1, List.append_assoc]; rfl)
  have HNN : Hid ((ls.length : Int) + 2 = (L1.length : Int) + 1) := Lib.hid (by rw [HL1.out]; push_cast; omega)
  clear i5 i4 i3 hc5 hk5 AK H3 HP3 hL1 h5 hb5
  refine wpSched_nil ?_
  try simp only [List.drop_succ_cons, List.drop_zero, List.drop_nil]
  go_wp2_with fail
  refine HWK.out.mono ?_
  rintro e w6 ⟨rfl, hq⟩
  rw [← HLL.out, ← HNN.out] at hq
  have HQ := Lib.hid hq
  clear hq HWK
  go_wp2
  go_end0
  exact ⟨rfl, HQ.out⟩
end Go.Proofs.YtcikenffeekkeaaGreatDoor

/- Joined of several texts: 18W, 18X. -/
import Derived.Test.YtgkogfjifcfkoaaGreatY30
import Derived.Test.YtgkogfjifcfkoaaGreatY25
namespace Go.Proofs.YtgkogfjifcfkoaaGreat
open Go.RowKit
set_option linter.unusedVariables false
set_option linter.unusedSimpArgs false
/- Heyting algebras: tables on representatives, by the reference (l19Tables). Written by gen18W.py. -/
/-- an entry of a table on representatives -/
def qe (A : List (List Nat)) (fs cl : List Nat) (i k : Nat) : Int := ((cl.getD (ent A (fs.getD i 0) (fs.getD k 0)) 0 : Nat) : Int)
theorem dj_step {v1 p q : Value} {n j : Nat} (hat : v1.ownBlock = p.ownBlock ∨ v1.ownBlock = some j) (hj : n ≤ j) (hq : ∀ k, q.ownBlock = some k → k < n) (h : ∀ k, p.ownBlock = some k → q.ownBlock ≠ some k) : ∀ k, v1.ownBlock = some k → q.ownBlock ≠ some k := fun k hk e => by
  rcases hat with h1 | h1
  · exact h k (h1 ▸ hk) e
  · rw [h1] at hk; injection hk with hk; have := hq k e; omega
theorem dj_symm {p q : Value} (h : ∀ k, p.ownBlock = some k → q.ownBlock ≠ some k) : ∀ k, q.ownBlock = some k → p.ownBlock ≠ some k := fun k e e2 => h k e2 e
theorem dj_kept {p q : Value} (h : ∀ k, p.ownBlock = some k → q.ownBlock ≠ some k) : q.ownBlock = none ∨ q.ownBlock ≠ p.ownBlock := by
  cases hq : q.ownBlock with
  | none => exact .inl rfl
  | some k => exact .inr fun e => h k e.symm hq
set_option maxHeartbeats 4000000 in
set_option maxRecDepth 100000 in
theorem spec_l19Tables (a o i u v : Value) (A O I : List (List Nat)) (b t n : Nat) (fs cl : List Nat) (w : World) (h : Hy w a o i (lil A) (lil O) (lil I)) (tA : TabN n A) (tO : TabN n O) (tI : TabN n I) (hn : n ≤ 30) (hb : b < n) (ht : t < n)
    (hu : Sl cI w u (li fs)) (hv : Sl cI w v (li cl)) (hcl : cl.length = n) (hfs : ∀ i, i < fs.length → fs.getD i 0 < n) (hfl : fs.length ≤ 30) :
    Calls Tryz.prog 61 #[.agg #[a, o, i, .int .i64 (b : Int), .int .i64 (t : Int)], u, v] w fun e w' => ∃ a' o' i' : Value, e = .returned (.agg #[a', o', i', .int .i64 (cl.getD b 0 : Nat), .int .i64 (cl.getD t 0 : Nat)]) ∧
      ObS w.heap.size w'.heap.size w' a' (tabI (qe A fs cl) fs.length fs.length) ∧ ObS w.heap.size w'.heap.size w' o' (tabI (qe O fs cl) fs.length fs.length) ∧ ObS w.heap.size w'.heap.size w' i' (tabI (qe I fs cl) fs.length fs.length) ∧ Below w.heap.size w w' := by
  obtain ⟨va, ca, rfl⟩ := h.a.opn
  obtain ⟨vo, co, rfl⟩ := h.o.opn
  obtain ⟨vi, ci, rfl⟩ := h.i.opn
  obtain ⟨vu, cu, rfl⟩ := hu.opn
  obtain ⟨vv, cv, rfl⟩ := hv.opn
  have LA := Lib.hid (show (lil A).length = n by rw [lil_length, tA.l])
  have LO := Lib.hid (show (lil O).length = n by rw [lil_length, tO.l])
  have LI := Lib.hid (show (lil I).length = n by rw [lil_length, tI.l])
  have LU := Lib.hid (li_length fs)
  have LV := Lib.hid (show (li cl).length = n by rw [li_length, hcl])
  have HA := Lib.hid (fun W (hW : Below w.heap.size w W) => h.a.below hW)
  have HO := Lib.hid (fun W (hW : Below w.heap.size w W) => h.o.below hW)
  have HI := Lib.hid (fun W (hW : Below w.heap.size w W) => h.i.below hW)
  have HU := Lib.hid (fun W (hW : Below w.heap.size w W) => hu.below hW)
  have HV := Lib.hid (fun W (hW : Below w.heap.size w W) => hv.below hW)
  rw [LA.out] at HA
  rw [LO.out] at HO
  rw [LI.out] at HI
  rw [LU.out] at HU
  rw [LV.out] at HV
  rw [LA.out, LO.out, LI.out, LU.out, LV.out]
  have TA := Lib.hid tA
  have TO := Lib.hid tO
  have TI := Lib.hid tI
  have FS := Lib.hid hfs
  obtain ⟨bv, ov, eV, hbV, hcb⟩ := (HV.out _ (Below.refl _ _)).atI (k := b) (by rw [LV.out]; exact hb)
  obtain ⟨bv', ov', eV', -, hct⟩ := (HV.out _ (Below.refl _ _)).atI (k := t) (by rw [LV.out]; exact ht)
  subst eV
  injection eV' with eV'
  injection eV' with e1 e2
  subst e1; subst e2
  rw [li_get] at hcb hct
  have hbx := below_alloc' w (.cells #[.slice va n ca, .slice vo n co, .slice vi n ci, .int .i64 (b : Int), .int .i64 (t : Int)] 26)
  have hk0 := Blk.new w 26 #[.slice va n ca, .slice vo n co, .slice vi n ci, .int .i64 (b : Int), .int .i64 (t : Int)]
  obtain ⟨W, hW⟩ : ∃ W, (w.alloc (.cells #[.slice va n ca, .slice vo n co, .slice vi n ci, .int .i64 (b : Int), .int .i64 (t : Int)] 26)).alloc (.cells #[.slice none 0 0, .slice none 0 0, .slice none 0 0, .int .i64 0, .int .i64 0] 26) = W := ⟨_, rfl⟩
  have hb2 := below_alloc' (w.alloc (.cells #[.slice va n ca, .slice vo n co, .slice vi n ci, .int .i64 (b : Int), .int .i64 (t : Int)] 26)) (.cells #[.slice none 0 0, .slice none 0 0, .slice none 0 0, .int .i64 0, .int .i64 0] 26)
  rw [hW] at hb2
  have BW := Lib.hid (bthen hbx hb2)
  have HK := Lib.hid (hk0.below hb2 hk0.lt)
  have HR : Hid (Blk W (w.heap.size + 1) 26 #[.slice none 0 0, .slice none 0 0, .slice none 0 0, .int .i64 0, .int .i64 0]) := Lib.hid (by rw [← hW]; exact Blk.new' _ _ _ (by simp))
  have HWS : Hid (W.heap.size = w.heap.size + 2) := Lib.hid (by rw [← hW]; simp)
  have hcb1 := (BW.out.cell (p := ⟨bv, ov + b, none⟩) hbV).trans hcb
  have hct1 := (BW.out.cell (p := ⟨bv, ov + t, none⟩) hbV).trans hct
  have hbV1 := Nat.lt_of_lt_of_le hbV BW.out.size
  clear h hu hv hfs hbx hk0 hcb hct tA tO tI
  go_enter Tryz.func61, Tryz.ntmps61
  go_upto_region 1 with fail
  try rw [hW]
  clear hW hb2
  obtain ⟨cb, hcb9⟩ : ∃ z, cl.getD b 0 = z := ⟨_, rfl⟩
  obtain ⟨ct, hct9⟩ : ∃ z, cl.getD t 0 = z := ⟨_, rfl⟩
  rw [hcb9] at hcb1
  rw [hct9] at hct1
  have HCB := Lib.hid hcb9
  have HCT := Lib.hid hct9
  clear hcb9 hct9
  have k0 := HK.out.cell
  have l0 := HK.out.lt
  have c3 : W.cell? ⟨w.heap.size, 3, none⟩ = some (.int .i64 (b : Int)) := k0 3
  have c4 : W.cell? ⟨w.heap.size, 4, none⟩ = some (.int .i64 (t : Int)) := k0 4
  clear k0
  have hI := (Below.refl W.heap.size W).drew
  refine wp_region_sched (Below W.heap.size W) 12 [0, 1, 2, 3, 4, 5, 6, 7, 8, 9, 10] (List.range 12) (by kernel_rfl) (by kernel_rfl) hI ?_
  repeat
    apply wpSched_q rfl rfl
    case h =>
      intro w' hI K hK
      have c3' := (hI.cell (p := ⟨w.heap.size, 3, none⟩) l0).trans c3
      have c4' := (hI.cell (p := ⟨w.heap.size, 4, none⟩) l0).trans c4
      have hcb1' := (hI.cell (p := ⟨bv, ov + b, none⟩) hbV1).trans hcb1
      have hct1' := (hI.cell (p := ⟨bv, ov + t, none⟩) hbV1).trans hct1
      simp only [quietV, stillV]
      go_simp
      exact hK
    go_simp
  refine wpSched_r rfl rfl ?_ hI
  intro K hK _
  go_simp
  refine hK _ _ (by first | exact hI.alloc hI.size _ | exact (hI.alloc hI.size _).drew | exact ((Below.refl _ _).alloc (Nat.le_refl _) _).drew) ?_
  clear hK K hI
  refine wpSched_nil ?_
  try simp only [List.drop_succ_cons, List.drop_zero, List.drop_nil]
  have G0 : Hid (Blk (World.drew (World.alloc W (.cells #[.slice none 0 0, .slice none 0 0, .slice none 0 0, .int .i64 0, .int .i64 0] 26))) W.heap.size 26 #[.slice none 0 0, .slice none 0 0, .slice none 0 0, .int .i64 0, .int .i64 0]) := Lib.hid (Blk.new W 26 #[.slice none 0 0, .slice none 0 0, .slice none 0 0, .int .i64 0, .int .i64 0])
  have B03 : Hid (Below W.heap.size W (World.drew (World.alloc W (.cells #[.slice none 0 0, .slice none 0 0, .slice none 0 0, .int .i64 0, .int .i64 0] 26)))) := Lib.hid (below_alloc' W _).drew
  have hz3 : (World.drew (World.alloc W (.cells #[.slice none 0 0, .slice none 0 0, .slice none 0 0, .int .i64 0, .int .i64 0] 26))).heap.size = W.heap.size + 1 := size_alloc' _ _
  have HZ3 := Lib.hid hz3
  change wpList _ _ _ _ _ (World.drew (World.alloc W (.cells #[.slice none 0 0, .slice none 0 0, .slice none 0 0, .int .i64 0, .int .i64 0] 26)))
  clear c3 c4 hcb1 hct1 hbV1 l0 hz3
  generalize World.drew (World.alloc W _) = w3 at *
  have kg := G0.out.cell
  have fg := G0.out.frozen
  have lg := G0.out.lt
  go_upto_region 2 with fail
  have G4 : Hid (Blk (World.setCell (World.setCell (World.setCell (World.setCell (World.setCell w3 ⟨W.heap.size, 0, none⟩ (.slice none 0 0)) ⟨W.heap.size, 1, none⟩ (.slice none 0 0)) ⟨W.heap.size, 2, none⟩ (.slice none 0 0)) ⟨W.heap.size, 3, none⟩ (.int .i64 (cb : Int))) ⟨W.heap.size, 4, none⟩ (.int .i64 (ct : Int))) W.heap.size 26 #[.slice none 0 0, .slice none 0 0, .slice none 0 0, .int .i64 (cb : Int), .int .i64 (ct : Int)]) := Lib.hid (by have := (Blk.set_ (Blk.set_ (Blk.set_ (Blk.set_ (Blk.set_ G0.out 0 (.slice none 0 0)) 1 (.slice none 0 0)) 2 (.slice none 0 0)) 3 (.int .i64 (cb : Int))) 4 (.int .i64 (ct : Int))); simpa using this)
  have B04 := Lib.hid (Below.setCell (Below.setCell (Below.setCell (Below.setCell (Below.setCell B03.out (p := ⟨W.heap.size, 0, none⟩) (Nat.le_refl _) (.slice none 0 0)) (p := ⟨W.heap.size, 1, none⟩) (Nat.le_refl _) (.slice none 0 0)) (p := ⟨W.heap.size, 2, none⟩) (Nat.le_refl _) (.slice none 0 0)) (p := ⟨W.heap.size, 3, none⟩) (Nat.le_refl _) (.int .i64 (cb : Int))) (p := ⟨W.heap.size, 4, none⟩) (Nat.le_refl _) (.int .i64 (ct : Int)))
  clear kg fg lg G0 B03 HZ3
  generalize (World.setCell (World.setCell (World.setCell (World.setCell (World.setCell w3 ⟨W.heap.size, 0, none⟩ (.slice none 0 0)) ⟨W.heap.size, 1, none⟩ (.slice none 0 0)) ⟨W.heap.size, 2, none⟩ (.slice none 0 0)) ⟨W.heap.size, 3, none⟩ (.int .i64 (cb : Int))) ⟨W.heap.size, 4, none⟩ (.int .i64 (ct : Int))) = w4 at *
  go_wp2
  go_loopw [8] (fun i wr => ∃ x : Nat, x ≤ fs.length ∧ i = .int .i64 x ∧ (∃ mA mO mI : Value, ObS (W.heap.size + 1) wr.heap.size wr mA (tabI (qe A fs cl) fs.length x) ∧ ObS (W.heap.size + 1) wr.heap.size wr mO (tabI (qe O fs cl) fs.length x) ∧ ObS (W.heap.size + 1) wr.heap.size wr mI (tabI (qe I fs cl) fs.length x) ∧ Blk wr W.heap.size 26 #[mA, mO, mI, .int .i64 (cb : Int), .int .i64 (ct : Int)]) ∧ Below W.heap.size W wr) (fun i _ => fs.length - (intOf i).toNat)
  case atStart => exact ⟨0, Nat.zero_le _, rfl, ⟨_, _, _, ObS.nil _ _ _, ObS.nil _ _ _, ObS.nil _ _ _, G4.out⟩, B04.out⟩
  case round =>
    obtain ⟨x, hx, rfl, ⟨mA, mO, mI, TA5, TO5, TI5, G5⟩, hb⟩ := hrel
    obtain ⟨w5, hw5⟩ : ∃ W, W = wr := ⟨_, rfl⟩
    subst hw5
    replace TA5 := Lib.hid TA5
    replace TO5 := Lib.hid TO5
    replace TI5 := Lib.hid TI5
    replace G5 := Lib.hid G5
    have B5 := Lib.hid hb
    have BW5 := Lib.hid (BW.out.trans (hb.mono BW.out.size))
    have K5 := Lib.hid (HK.out.below hb HK.out.lt)
    have hg5 := G5.out.lt
    clear hb G4 B04
    by_cases hlt : x < fs.length
    · go_wp2
      go_loopw [9, 10, 11, 12] (fun pA pO pI i wr => ∃ y : Nat, y ≤ fs.length ∧ i = .int .i64 y ∧ Ow cI 2 w5.heap.size wr pA (rowI (qe A fs cl) x y) ∧ Ow cI 2 w5.heap.size wr pO (rowI (qe O fs cl) x y) ∧ Ow cI 2 w5.heap.size wr pI (rowI (qe I fs cl) x y) ∧ (∀ k, pA.ownBlock = some k → pO.ownBlock ≠ some k) ∧ (∀ k, pA.ownBlock = some k → pI.ownBlock ≠ some k) ∧ (∀ k, pO.ownBlock = some k → pI.ownBlock ≠ some k) ∧ Below w5.heap.size w5 wr) (fun _ _ _ i _ => fs.length - (intOf i).toNat)
      case atStart => exact ⟨0, Nat.zero_le _, rfl, ((Ow.lit (K := cI) [] rfl rfl (Nat.le_refl _)).alloc _).alloc _, (Ow.lit' (K := cI) [] (by simp) rfl rfl (by omega)).alloc _, Ow.lit' (K := cI) [] (by simp) rfl rfl (by omega), (fun k h1 h2 => by have e1 : w5.heap.size = k := Option.some.inj h1; have e2 : w5.heap.size + 1 = k := Option.some.inj h2; omega), (fun k h1 h2 => by have e1 : w5.heap.size = k := Option.some.inj h1; have e2 : w5.heap.size + 1 + 1 = k := Option.some.inj h2; omega), (fun k h1 h2 => by have e1 : w5.heap.size + 1 = k := Option.some.inj h1; have e2 : w5.heap.size + 1 + 1 = k := Option.some.inj h2; omega), bthen (bthen (below_alloc' _ _) (below_alloc' _ _)) (below_alloc' _ _)⟩
      case round =>
        obtain ⟨y, hy, rfl, PA, PO, PI, dAO, dAI, dOI, hb6⟩ := hrel
        obtain ⟨w6, hw6⟩ : ∃ W, W = wr := ⟨_, rfl⟩
        subst hw6
        obtain ⟨spA, cpA, rfl⟩ := PA.opn
        rw [rowI_length] at PA
        obtain ⟨spO, cpO, rfl⟩ := PO.opn
        rw [rowI_length] at PO
        obtain ⟨spI, cpI, rfl⟩ := PI.opn
        rw [rowI_length] at PI
        rw [rowI_length, rowI_length] at dAO dAI dOI
        rw [rowI_length, rowI_length, rowI_length]
        replace PA := Lib.hid PA
        replace PO := Lib.hid PO
        replace PI := Lib.hid PI
        have DAO := Lib.hid dAO
        have DAI := Lib.hid dAI
        have DOI := Lib.hid dOI
        have C6 := Lib.hid hb6
        clear hb6 dAO dAI dOI
        by_cases hlt2 : y < fs.length
        · obtain ⟨bu, ou, eu, hbu, hux⟩ := (HU.out _ BW5.out).atI (k := x) (by rw [LU.out]; exact hlt)
          obtain ⟨bu', ou', eu', -, huy⟩ := (HU.out _ BW5.out).atI (k := y) (by rw [LU.out]; exact hlt2)
          subst eu
          injection eu' with eu'
          injection eu' with f1 f2
          subst f1; subst f2
          rw [li_get] at hux huy
          have fx := FS.out x hlt
          have fy := FS.out y hlt2
          obtain ⟨bA, oA, dA, qA, jA, eA, hbA, hcA, hdA, heA⟩ := ent_at (HA.out _ BW5.out) TA.out fx fy
          subst eA
          have henA := TA.out.ent_lt fx fy
          obtain ⟨bwA, owA, ew, hvA, hclA⟩ := (HV.out _ BW5.out).atI (k := ent A (fs.getD x 0) (fs.getD y 0)) (by rw [LV.out]; exact henA)
          injection ew with ew
          injection ew with f1 f2
          subst f1; subst f2
          rw [li_get] at hclA
          have RA := Lib.hid (show rowI (qe A fs cl) x (y + 1) = rowI (qe A fs cl) x y ++ [qe A fs cl x y] from rowI_succ _ _ _)
          have RLA := Lib.hid (rowI_length (qe A fs cl) x y)
          have RQA : Hid (qe A fs cl x y = ((cl.getD (ent A (fs.getD x 0) (fs.getD y 0)) 0 : Nat) : Int)) := Lib.hid rfl
          rw [RQA.out] at RA
          clear RQA
          obtain ⟨bO, oO, dO, qO, jO, eO, hbO, hcO, hdO, heO⟩ := ent_at (HO.out _ BW5.out) TO.out fx fy
          subst eO
          have henO := TO.out.ent_lt fx fy
          obtain ⟨bwO, owO, ew, hvO, hclO⟩ := (HV.out _ BW5.out).atI (k := ent O (fs.getD x 0) (fs.getD y 0)) (by rw [LV.out]; exact henO)
          injection ew with ew
          injection ew with f1 f2
          subst f1; subst f2
          rw [li_get] at hclO
          have RO := Lib.hid (show rowI (qe O fs cl) x (y + 1) = rowI (qe O fs cl) x y ++ [qe O fs cl x y] from rowI_succ _ _ _)
          have RLO := Lib.hid (rowI_length (qe O fs cl) x y)
          have RQO : Hid (qe O fs cl x y = ((cl.getD (ent O (fs.getD x 0) (fs.getD y 0)) 0 : Nat) : Int)) := Lib.hid rfl
          rw [RQO.out] at RO
          clear RQO
          obtain ⟨bI, oI, dI, qI, jI, eI, hbI, hcI, hdI, heI⟩ := ent_at (HI.out _ BW5.out) TI.out fx fy
          subst eI
          have henI := TI.out.ent_lt fx fy
          obtain ⟨bwI, owI, ew, hvI, hclI⟩ := (HV.out _ BW5.out).atI (k := ent I (fs.getD x 0) (fs.getD y 0)) (by rw [LV.out]; exact henI)
          injection ew with ew
          injection ew with f1 f2
          subst f1; subst f2
          rw [li_get] at hclI
          have RI := Lib.hid (show rowI (qe I fs cl) x (y + 1) = rowI (qe I fs cl) x y ++ [qe I fs cl x y] from rowI_succ _ _ _)
          have RLI := Lib.hid (rowI_length (qe I fs cl) x y)
          have RQI : Hid (qe I fs cl x y = ((cl.getD (ent I (fs.getD x 0) (fs.getD y 0)) 0 : Nat) : Int)) := Lib.hid rfl
          rw [RQI.out] at RI
          clear RQI
          obtain ⟨zA, hzA⟩ : ∃ z, cl.getD (ent A (fs.getD x 0) (fs.getD y 0)) 0 = z := ⟨_, rfl⟩
          rw [hzA] at hclA RA
          clear hzA
          generalize ent A (fs.getD x 0) (fs.getD y 0) = nA at *
          obtain ⟨zO, hzO⟩ : ∃ z, cl.getD (ent O (fs.getD x 0) (fs.getD y 0)) 0 = z := ⟨_, rfl⟩
          rw [hzO] at hclO RO
          clear hzO
          generalize ent O (fs.getD x 0) (fs.getD y 0) = nO at *
          obtain ⟨zI, hzI⟩ : ∃ z, cl.getD (ent I (fs.getD x 0) (fs.getD y 0)) 0 = z := ⟨_, rfl⟩
          rw [hzI] at hclI RI
          clear hzI
          generalize ent I (fs.getD x 0) (fs.getD y 0) = nI at *
          generalize fs.getD x 0 = lx at *
          generalize fs.getD y 0 = ly at *
          have u91 := (C6.out.cell (p := ⟨bu, ou + x, none⟩) hbu).trans hux
          have u92 := (C6.out.cell (p := ⟨bu, ou + y, none⟩) hbu).trans huy
          have u93 := (C6.out.cell (p := ⟨bA, oA + lx, none⟩) hbA).trans hcA
          have u94 := (C6.out.cell (p := ⟨dA, qA + ly, none⟩) hdA).trans heA
          have u95 := (C6.out.cell (p := ⟨bv, ov + nA, none⟩) hvA).trans hclA
          have u96 : w6.cell? ⟨w.heap.size, 0, none⟩ = some (.slice (some ⟨bA, oA, none⟩) n ca) := (C6.out.cell (p := ⟨w.heap.size, 0, none⟩) K5.out.lt).trans (K5.out.cell 0)
          have z9 := C6.out.size
          go_upto_region 9 with fail
          have hI := (Below.refl w6.heap.size w6).drew
          refine wp_region_sched (Below w6.heap.size w6) 19 [0, 1, 2, 3, 4, 5, 6, 7, 8, 9, 10, 11, 12, 13, 14, 15, 16, 17] (List.range 19) (by kernel_rfl) (by kernel_rfl) hI ?_
          repeat
            apply wpSched_q rfl rfl
            case h =>
              intro w' hI K hK
              have u91' := (hI.cell (p := ⟨bu, ou + x, none⟩) (Nat.lt_of_lt_of_le hbu C6.out.size)).trans u91
              have u92' := (hI.cell (p := ⟨bu, ou + y, none⟩) (Nat.lt_of_lt_of_le hbu C6.out.size)).trans u92
              have u93' := (hI.cell (p := ⟨bA, oA + lx, none⟩) (Nat.lt_of_lt_of_le hbA C6.out.size)).trans u93
              have u94' := (hI.cell (p := ⟨dA, qA + ly, none⟩) (Nat.lt_of_lt_of_le hdA C6.out.size)).trans u94
              have u95' := (hI.cell (p := ⟨bv, ov + nA, none⟩) (Nat.lt_of_lt_of_le hvA C6.out.size)).trans u95
              have u96' := (hI.cell (p := ⟨w.heap.size, 0, none⟩) (Nat.lt_of_lt_of_le K5.out.lt C6.out.size)).trans u96
              simp only [quietV, stillV]
              go_simp
              exact hK
            go_simp
          refine wpSched_r rfl rfl ?_ hI
          intro K hK _
          go_simp
          refine hK _ _ (by first | exact hI.alloc hI.size _ | exact (hI.alloc hI.size _).drew | exact ((Below.refl _ _).alloc (Nat.le_refl _) _).drew) ?_
          clear hK K
          refine wpSched_nil ?_
          try simp only [List.drop_succ_cons, List.drop_zero, List.drop_nil]
          have hD := (Below.refl w6.heap.size w6).drew
          clear hI u91 u92 u93 u94 u95 u96
          change wpList _ _ _ _ _ (World.alloc (World.drew w6) _)
          refine ap_one (K := cI) (World.drew w6) ty_int64 rfl _ _ rfl (B := w5.heap.size) (v := (Value.slice spA y cpA)) (xs := rowI (qe A fs cl) x y) rfl (PA.out.below hD) (zA : Int) rfl rfl (by have := RLA.out; omega) (by show w5.heap.size ≤ w6.heap.size; omega) ?_
          intro vA w7 ho hg hbB hat
          rw [← RA.out] at ho
          have NA := Lib.hid ho
          have hsz : (World.drew w6).heap.size = w6.heap.size := rfl
          have QO9 := Lib.hid (((PO.out.below hD).alloc _).kept hg (dj_kept DAO.out))
          have EAO9 := Lib.hid (dj_step (q := (Value.slice spO y cpO)) (n := w6.heap.size) hat (by rw [hsz]; exact Nat.le_succ _) (fun k e => (PO.out.block k e).2) DAO.out)
          have QI9 := Lib.hid (((PI.out.below hD).alloc _).kept hg (dj_kept DAI.out))
          have EAI9 := Lib.hid (dj_step (q := (Value.slice spI y cpI)) (n := w6.heap.size) hat (by rw [hsz]; exact Nat.le_succ _) (fun k e => (PI.out.block k e).2) DAI.out)
          have C7 := Lib.hid (C6.out.trans (((Below.refl w5.heap.size w6).drew).trans hbB))
          obtain ⟨spA_, cpA_, hv1⟩ := NA.out.opn
          rw [rowI_length] at hv1
          subst hv1
          clear ho hg hbB hat hsz hD
          have u101 := (C7.out.cell (p := ⟨bu, ou + x, none⟩) hbu).trans hux
          have u102 := (C7.out.cell (p := ⟨bu, ou + y, none⟩) hbu).trans huy
          have u103 := (C7.out.cell (p := ⟨bO, oO + lx, none⟩) hbO).trans hcO
          have u104 := (C7.out.cell (p := ⟨dO, qO + ly, none⟩) hdO).trans heO
          have u105 := (C7.out.cell (p := ⟨bv, ov + nO, none⟩) hvO).trans hclO
          have u106 : w7.cell? ⟨w.heap.size, 1, none⟩ = some (.slice (some ⟨bO, oO, none⟩) n co) := (C7.out.cell (p := ⟨w.heap.size, 1, none⟩) K5.out.lt).trans (K5.out.cell 1)
          have z10 := C7.out.size
          go_upto_region 10 with fail
          have hI := (Below.refl w7.heap.size w7).drew
          refine wp_region_sched (Below w7.heap.size w7) 19 [0, 1, 2, 3, 4, 5, 6, 7, 8, 9, 10, 11, 12, 13, 14, 15, 16, 17] (List.range 19) (by kernel_rfl) (by kernel_rfl) hI ?_
          repeat
            apply wpSched_q rfl rfl
            case h =>
              intro w' hI K hK
              have u101' := (hI.cell (p := ⟨bu, ou + x, none⟩) (Nat.lt_of_lt_of_le hbu C7.out.size)).trans u101
              have u102' := (hI.cell (p := ⟨bu, ou + y, none⟩) (Nat.lt_of_lt_of_le hbu C7.out.size)).trans u102
              have u103' := (hI.cell (p := ⟨bO, oO + lx, none⟩) (Nat.lt_of_lt_of_le hbO C7.out.size)).trans u103
              have u104' := (hI.cell (p := ⟨dO, qO + ly, none⟩) (Nat.lt_of_lt_of_le hdO C7.out.size)).trans u104
              have u105' := (hI.cell (p := ⟨bv, ov + nO, none⟩) (Nat.lt_of_lt_of_le hvO C7.out.size)).trans u105
              have u106' := (hI.cell (p := ⟨w.heap.size, 1, none⟩) (Nat.lt_of_lt_of_le K5.out.lt C7.out.size)).trans u106
              simp only [quietV, stillV]
              go_simp
              exact hK
            go_simp
          refine wpSched_r rfl rfl ?_ hI
          intro K hK _
          go_simp
          refine hK _ _ (by first | exact hI.alloc hI.size _ | exact (hI.alloc hI.size _).drew | exact ((Below.refl _ _).alloc (Nat.le_refl _) _).drew) ?_
          clear hK K
          refine wpSched_nil ?_
          try simp only [List.drop_succ_cons, List.drop_zero, List.drop_nil]
          have hD := (Below.refl w7.heap.size w7).drew
          clear hI u101 u102 u103 u104 u105 u106
          change wpList _ _ _ _ _ (World.alloc (World.drew w7) _)
          refine ap_one (K := cI) (World.drew w7) ty_int64 rfl _ _ rfl (B := w5.heap.size) (v := (Value.slice spO y cpO)) (xs := rowI (qe O fs cl) x y) rfl (QO9.out.below hD) (zO : Int) rfl rfl (by have := RLO.out; omega) (by show w5.heap.size ≤ w7.heap.size; omega) ?_
          intro vO w8 ho hg hbB hat
          rw [← RO.out] at ho
          have NO := Lib.hid ho
          have hsz : (World.drew w7).heap.size = w7.heap.size := rfl
          have QA10 := Lib.hid (((NA.out.below hD).alloc _).kept hg (dj_kept (dj_symm EAO9.out)))
          have EOA10 := Lib.hid (dj_step (q := (Value.slice spA_ (y + 1) cpA_)) (n := w7.heap.size) hat (by rw [hsz]; exact Nat.le_succ _) (fun k e => (NA.out.block k e).2) (dj_symm EAO9.out))
          have QI10 := Lib.hid (((QI9.out.below hD).alloc _).kept hg (dj_kept DOI.out))
          have EOI10 := Lib.hid (dj_step (q := (Value.slice spI y cpI)) (n := w7.heap.size) hat (by rw [hsz]; exact Nat.le_succ _) (fun k e => (QI9.out.block k e).2) DOI.out)
          have FAO10 := Lib.hid (dj_symm EOA10.out)
          have C8 := Lib.hid (C7.out.trans (((Below.refl w5.heap.size w7).drew).trans hbB))
          obtain ⟨spO_, cpO_, hv1⟩ := NO.out.opn
          rw [rowI_length] at hv1
          subst hv1
          clear ho hg hbB hat hsz hD
          have u111 := (C8.out.cell (p := ⟨bu, ou + x, none⟩) hbu).trans hux
          have u112 := (C8.out.cell (p := ⟨bu, ou + y, none⟩) hbu).trans huy
          have u113 := (C8.out.cell (p := ⟨bI, oI + lx, none⟩) hbI).trans hcI
          have u114 := (C8.out.cell (p := ⟨dI, qI + ly, none⟩) hdI).trans heI
          have u115 := (C8.out.cell (p := ⟨bv, ov + nI, none⟩) hvI).trans hclI
          have u116 : w8.cell? ⟨w.heap.size, 2, none⟩ = some (.slice (some ⟨bI, oI, none⟩) n ci) := (C8.out.cell (p := ⟨w.heap.size, 2, none⟩) K5.out.lt).trans (K5.out.cell 2)
          have z11 := C8.out.size
          go_upto_region 11 with fail
          have hI := (Below.refl w8.heap.size w8).drew
          refine wp_region_sched (Below w8.heap.size w8) 19 [0, 1, 2, 3, 4, 5, 6, 7, 8, 9, 10, 11, 12, 13, 14, 15, 16, 17] (List.range 19) (by kernel_rfl) (by kernel_rfl) hI ?_
          repeat
            apply wpSched_q rfl rfl
            case h =>
              intro w' hI K hK
              have u111' := (hI.cell (p := ⟨bu, ou + x, none⟩) (Nat.lt_of_lt_of_le hbu C8.out.size)).trans u111
              have u112' := (hI.cell (p := ⟨bu, ou + y, none⟩) (Nat.lt_of_lt_of_le hbu C8.out.size)).trans u112
              have u113' := (hI.cell (p := ⟨bI, oI + lx, none⟩) (Nat.lt_of_lt_of_le hbI C8.out.size)).trans u113
              have u114' := (hI.cell (p := ⟨dI, qI + ly, none⟩) (Nat.lt_of_lt_of_le hdI C8.out.size)).trans u114
              have u115' := (hI.cell (p := ⟨bv, ov + nI, none⟩) (Nat.lt_of_lt_of_le hvI C8.out.size)).trans u115
              have u116' := (hI.cell (p := ⟨w.heap.size, 2, none⟩) (Nat.lt_of_lt_of_le K5.out.lt C8.out.size)).trans u116
              simp only [quietV, stillV]
              go_simp
              exact hK
            go_simp
          refine wpSched_r rfl rfl ?_ hI
          intro K hK _
          go_simp
          refine hK _ _ (by first | exact hI.alloc hI.size _ | exact (hI.alloc hI.size _).drew | exact ((Below.refl _ _).alloc (Nat.le_refl _) _).drew) ?_
          clear hK K
          refine wpSched_nil ?_
          try simp only [List.drop_succ_cons, List.drop_zero, List.drop_nil]
          have hD := (Below.refl w8.heap.size w8).drew
          clear hI u111 u112 u113 u114 u115 u116
          change wpList _ _ _ _ _ (World.alloc (World.drew w8) _)
          refine ap_one (K := cI) (World.drew w8) ty_int64 rfl _ _ rfl (B := w5.heap.size) (v := (Value.slice spI y cpI)) (xs := rowI (qe I fs cl) x y) rfl (QI10.out.below hD) (zI : Int) rfl rfl (by have := RLI.out; omega) (by show w5.heap.size ≤ w8.heap.size; omega) ?_
          intro vI w9 ho hg hbB hat
          rw [← RI.out] at ho
          have NI := Lib.hid ho
          have hsz : (World.drew w8).heap.size = w8.heap.size := rfl
          have QA11 := Lib.hid (((QA10.out.below hD).alloc _).kept hg (dj_kept (dj_symm EAI9.out)))
          have EIA11 := Lib.hid (dj_step (q := (Value.slice spA_ (y + 1) cpA_)) (n := w8.heap.size) hat (by rw [hsz]; exact Nat.le_succ _) (fun k e => (QA10.out.block k e).2) (dj_symm EAI9.out))
          have QO11 := Lib.hid (((NO.out.below hD).alloc _).kept hg (dj_kept (dj_symm EOI10.out)))
          have EIO11 := Lib.hid (dj_step (q := (Value.slice spO_ (y + 1) cpO_)) (n := w8.heap.size) hat (by rw [hsz]; exact Nat.le_succ _) (fun k e => (NO.out.block k e).2) (dj_symm EOI10.out))
          have FAI11 := Lib.hid (dj_symm EIA11.out)
          have FOI11 := Lib.hid (dj_symm EIO11.out)
          have C9 := Lib.hid (C8.out.trans (((Below.refl w5.heap.size w8).drew).trans hbB))
          obtain ⟨spI_, cpI_, hv1⟩ := NI.out.opn
          rw [rowI_length] at hv1
          subst hv1
          clear ho hg hbB hat hsz hD
          go_wp2
          exact ⟨⟨y + 1, by omega, by go_num, QA11.out, QO11.out, NI.out, FAO10.out, FAI11.out, FOI11.out, C9.out⟩, by simp [intOf]; omega⟩
        · obtain rfl : y = fs.length := by omega
          have VA := Lib.hid (TA5.out.below C6.out)
          have VO := Lib.hid (TO5.out.below C6.out)
          have VI := Lib.hid (TI5.out.below C6.out)
          have GG := Lib.hid (G5.out.below C6.out hg5)
          have BB := Lib.hid (B5.out.trans (C6.out.mono (show W.heap.size ≤ w5.heap.size by omega)))
          have PPA := Lib.hid (PA.out.mono (show W.heap.size + 1 ≤ w5.heap.size by omega))
          have PLA := Lib.hid (fun k e => (PA.out.block k e).1)
          have PPO := Lib.hid (PO.out.mono (show W.heap.size + 1 ≤ w5.heap.size by omega))
          have PLO := Lib.hid (fun k e => (PO.out.block k e).1)
          have PPI := Lib.hid (PI.out.mono (show W.heap.size + 1 ≤ w5.heap.size by omega))
          have PLI := Lib.hid (fun k e => (PI.out.block k e).1)
          have hTA := tabI_length (qe A fs cl) fs.length x
          obtain ⟨xA, yA, hxA⟩ := VA.out.opn
          rw [hTA] at hxA
          subst hxA
          have hTO := tabI_length (qe O fs cl) fs.length x
          obtain ⟨xO, yO, hxO⟩ := VO.out.opn
          rw [hTO] at hxO
          subst hxO
          have hTI := tabI_length (qe I fs cl) fs.length x
          obtain ⟨xI, yI, hxI⟩ := VI.out.opn
          rw [hTI] at hxI
          subst hxI
          clear hTA hTO hTI
          clear TA5 TO5 TI5 G5 PA PO PI
          have S0 := C6.out.size
          obtain ⟨hs0, h1, h2, h3, h4, h5⟩ := VA.out
          have hhl : hs0.length = x := by rw [h2, tabI_length]
          have kg := GG.out.cell
          have fg := GG.out.frozen
          have lg := GG.out.lt
          have H10 := Lib.hid h1
          have H20 := Lib.hid h2
          have H40 := Lib.hid (fun i a b => (⟨(h4 i a b).1, fun k e => ((h4 i a b).2 k e).1⟩ : Ow cI 2 (W.heap.size + 1) w6 hs0[i].val _ ∧ ∀ k, hs0[i].val.ownBlock = some k → k < w5.heap.size))
          have H50 := Lib.hid h5
          have HL0 := Lib.hid hhl
          clear h1 h2 h3 h4 h5 hhl
          go_wp2_with (at_builtin; refine stopHere ?_)
          refine goHere ?_
          refine ap_any (K := cH) _ ty_intss rfl _ _ rfl (B := w6.heap.size) (v := .slice (some ⟨w6.heap.size, 0, none⟩) 0 0) (xs := []) rfl (Ow.lit (K := cH) [] rfl rfl (Nat.le_refl _)) (news := hs0) rfl (by rw [HL0.out]) (slRd (H10.out.below (below_alloc' _ _)).sl) (by have := HL0.out; simp only [List.length_nil]; omega) (by rw [size_alloc']; omega) ?_
          intro v1 wb0 ho1 hg1 hb1 hat1
          rw [List.nil_append] at ho1
          have hbw := (below_alloc' w6 (.cells #[] 27)).trans hb1
          obtain ⟨Ab, cb_, hv1⟩ := ho1.opn
          subst hv1
          have N1 := Lib.hid ho1
          have HBW := Lib.hid hbw
          have hzb := hbw.size
          clear ho1 hg1 hb1 hat1 hbw kg fg lg
          have G7 := Lib.hid (GG.out.below HBW.out GG.out.lt)
          have kg := G7.out.cell
          have fg := G7.out.frozen
          have lg := G7.out.lt
          go_wp2_with (at_builtin; refine stopHere ?_)
          refine goHere ?_
          refine ap_one (K := cH) _ ty_intss rfl _ _ rfl (B := w6.heap.size) (xs := hs0) rfl N1.out (⟨spA, fs.length, cpA⟩ : Hd) rfl rfl (by have := HL0.out; omega) hzb ?_
          intro v2 wc0 ho2 hg2 hb2 hat2
          have hbc := HBW.out.trans hb2
          have z0 := GG.out.lt
          have T2 := Lib.hid (ObS.more (hi := w5.heap.size) H20.out H40.out H50.out PPA.out (fun k e => PLA.out k e) (ho2.mono (show W.heap.size + 1 ≤ w6.heap.size by omega)) hbc (fun k hk => (ho2.block k hk).1))
          rw [← tabI_succ] at T2
          obtain ⟨A2, c2, hv2⟩ := ho2.opn
          rw [List.length_append, List.length_singleton, HL0.out] at hv2
          subst hv2
          have G8 := Lib.hid (GG.out.below hbc GG.out.lt)
          clear kg fg lg G7
          have kg := G8.out.cell
          have fg := G8.out.frozen
          have lg := G8.out.lt
          have UA := Lib.hid (ObS.setBelow T2.out (p := ⟨W.heap.size, 0, none⟩) (Nat.lt_succ_self _) (.slice A2 (x + 1) c2))
          have G9 := Lib.hid (G8.out.set_ 0 (.slice A2 (x + 1) c2))
          have XO := Lib.hid (ObS.setBelow (VO.out.below hbc) (p := ⟨W.heap.size, 0, none⟩) (Nat.lt_succ_self _) (.slice A2 (x + 1) c2))
          have XI := Lib.hid (ObS.setBelow (VI.out.below hbc) (p := ⟨W.heap.size, 0, none⟩) (Nat.lt_succ_self _) (.slice A2 (x + 1) c2))
          have XPO := Lib.hid ((PPO.out.below hbc).setBelow (p := ⟨W.heap.size, 0, none⟩) (Nat.lt_succ_self _) (.slice A2 (x + 1) c2))
          have XPI := Lib.hid ((PPI.out.below hbc).setBelow (p := ⟨W.heap.size, 0, none⟩) (Nat.lt_succ_self _) (.slice A2 (x + 1) c2))
          have B9 := Lib.hid ((BB.out.trans (hbc.mono (show W.heap.size ≤ w6.heap.size by omega))).setCell (p := ⟨W.heap.size, 0, none⟩) (Nat.le_refl _) (.slice A2 (x + 1) c2))
          have S1 : w5.heap.size ≤ (World.setCell wc0 ⟨W.heap.size, 0, none⟩ (.slice A2 (x + 1) c2)).heap.size := by have := hbc.size; simp [World.setCell]; omega
          have SS0 : wc0.heap.size ≤ (World.setCell wc0 ⟨W.heap.size, 0, none⟩ (.slice A2 (x + 1) c2)).heap.size := by simp [World.setCell]
          have SQ0 : w6.heap.size ≤ (World.setCell wc0 ⟨W.heap.size, 0, none⟩ (.slice A2 (x + 1) c2)).heap.size := by have := hbc.size; simp [World.setCell]; omega
          clear ho2 hg2 hb2 hat2 hbc T2 G8 N1 HBW H10 H20 H40 H50 z0 hzb
          go_upto_region 13 with fail
          generalize World.setCell wc0 ⟨W.heap.size, 0, none⟩ (.slice A2 (x + 1) c2) = we0 at *
          clear kg fg lg
          clear GG BB VO VI PPO PPI
          obtain ⟨nv0, hnv⟩ : ∃ z, (Value.slice A2 (x + 1) c2) = z := ⟨_, rfl⟩
          rw [hnv] at UA G9
          clear hnv
          have GG : Hid (Blk we0 W.heap.size 26 #[nv0, (.slice xO x yO), (.slice xI x yI), .int .i64 (cb : Int), .int .i64 (ct : Int)]) := Lib.hid (by have := G9.out; simpa using this)
          have BB := B9
          have VO := XO
          have PPO := XPO
          have VI := XI
          have PPI := XPI
          have WA0 := UA
          clear UA
          have UA := Lib.hid (ObS.wide WA0.out (Nat.le_refl _) SS0)
          clear WA0
          clear G9 B9 XO XI XPO XPI
          obtain ⟨hs1, h1, h2, h3, h4, h5⟩ := VO.out
          have hhl : hs1.length = x := by rw [h2, tabI_length]
          have kg := GG.out.cell
          have fg := GG.out.frozen
          have lg := GG.out.lt
          have H11 := Lib.hid h1
          have H21 := Lib.hid h2
          have H41 := Lib.hid (fun i a b => (⟨(h4 i a b).1, fun k e => ((h4 i a b).2 k e).1⟩ : Ow cI 2 (W.heap.size + 1) we0 hs1[i].val _ ∧ ∀ k, hs1[i].val.ownBlock = some k → k < w5.heap.size))
          have H51 := Lib.hid h5
          have HL1 := Lib.hid hhl
          clear h1 h2 h3 h4 h5 hhl
          go_wp2_with (at_builtin; refine stopHere ?_)
          refine goHere ?_
          refine ap_any (K := cH) _ ty_intss rfl _ _ rfl (B := we0.heap.size) (v := .slice (some ⟨we0.heap.size, 0, none⟩) 0 0) (xs := []) rfl (Ow.lit (K := cH) [] rfl rfl (Nat.le_refl _)) (news := hs1) rfl (by rw [HL1.out]) (slRd (H11.out.below (below_alloc' _ _)).sl) (by have := HL1.out; simp only [List.length_nil]; omega) (by rw [size_alloc']; omega) ?_
          intro v1 wb1 ho1 hg1 hb1 hat1
          rw [List.nil_append] at ho1
          have hbw := (below_alloc' we0 (.cells #[] 27)).trans hb1
          obtain ⟨Ab, cb_, hv1⟩ := ho1.opn
          subst hv1
          have N1 := Lib.hid ho1
          have HBW := Lib.hid hbw
          have hzb := hbw.size
          clear ho1 hg1 hb1 hat1 hbw kg fg lg
          have G7 := Lib.hid (GG.out.below HBW.out GG.out.lt)
          have kg := G7.out.cell
          have fg := G7.out.frozen
          have lg := G7.out.lt
          go_wp2_with (at_builtin; refine stopHere ?_)
          refine goHere ?_
          refine ap_one (K := cH) _ ty_intss rfl _ _ rfl (B := we0.heap.size) (xs := hs1) rfl N1.out (⟨spO, fs.length, cpO⟩ : Hd) rfl rfl (by have := HL1.out; omega) hzb ?_
          intro v2 wc1 ho2 hg2 hb2 hat2
          have hbc := HBW.out.trans hb2
          have z0 := GG.out.lt
          have T2 := Lib.hid (ObS.more (hi := w5.heap.size) H21.out H41.out H51.out PPO.out (fun k e => PLO.out k e) (ho2.mono (show W.heap.size + 1 ≤ we0.heap.size by omega)) hbc (fun k hk => (ho2.block k hk).1))
          rw [← tabI_succ] at T2
          obtain ⟨A2, c2, hv2⟩ := ho2.opn
          rw [List.length_append, List.length_singleton, HL1.out] at hv2
          subst hv2
          have G8 := Lib.hid (GG.out.below hbc GG.out.lt)
          clear kg fg lg G7
          have kg := G8.out.cell
          have fg := G8.out.frozen
          have lg := G8.out.lt
          have UO := Lib.hid (ObS.setBelow T2.out (p := ⟨W.heap.size, 1, none⟩) (Nat.lt_succ_self _) (.slice A2 (x + 1) c2))
          have G9 := Lib.hid (G8.out.set_ 1 (.slice A2 (x + 1) c2))
          have XA := Lib.hid (ObS.setBelow (UA.out.below hbc) (p := ⟨W.heap.size, 1, none⟩) (Nat.lt_succ_self _) (.slice A2 (x + 1) c2))
          have XI := Lib.hid (ObS.setBelow (VI.out.below hbc) (p := ⟨W.heap.size, 1, none⟩) (Nat.lt_succ_self _) (.slice A2 (x + 1) c2))
          have XPI := Lib.hid ((PPI.out.below hbc).setBelow (p := ⟨W.heap.size, 1, none⟩) (Nat.lt_succ_self _) (.slice A2 (x + 1) c2))
          have B9 := Lib.hid ((BB.out.trans (hbc.mono (show W.heap.size ≤ we0.heap.size by omega))).setCell (p := ⟨W.heap.size, 1, none⟩) (Nat.le_refl _) (.slice A2 (x + 1) c2))
          have S2 : w5.heap.size ≤ (World.setCell wc1 ⟨W.heap.size, 1, none⟩ (.slice A2 (x + 1) c2)).heap.size := by have := hbc.size; simp [World.setCell]; omega
          have SS1 : wc1.heap.size ≤ (World.setCell wc1 ⟨W.heap.size, 1, none⟩ (.slice A2 (x + 1) c2)).heap.size := by simp [World.setCell]
          have SQ1 : we0.heap.size ≤ (World.setCell wc1 ⟨W.heap.size, 1, none⟩ (.slice A2 (x + 1) c2)).heap.size := by have := hbc.size; simp [World.setCell]; omega
          clear ho2 hg2 hb2 hat2 hbc T2 G8 N1 HBW H11 H21 H41 H51 z0 hzb
          go_upto_region 14 with fail
          generalize World.setCell wc1 ⟨W.heap.size, 1, none⟩ (.slice A2 (x + 1) c2) = we1 at *
          clear kg fg lg
          clear GG BB VI PPI
          obtain ⟨nv1, hnv⟩ : ∃ z, (Value.slice A2 (x + 1) c2) = z := ⟨_, rfl⟩
          rw [hnv] at UO G9
          clear hnv
          have GG : Hid (Blk we1 W.heap.size 26 #[nv0, nv1, (.slice xI x yI), .int .i64 (cb : Int), .int .i64 (ct : Int)]) := Lib.hid (by have := G9.out; simpa using this)
          have BB := B9
          have VI := XI
          have PPI := XPI
          clear UA
          have UA := XA
          have WO1 := UO
          clear UO
          have UO := Lib.hid (ObS.wide WO1.out (Nat.le_refl _) SS1)
          clear WO1
          clear G9 B9 XA XI XPI
          obtain ⟨hs2, h1, h2, h3, h4, h5⟩ := VI.out
          have hhl : hs2.length = x := by rw [h2, tabI_length]
          have kg := GG.out.cell
          have fg := GG.out.frozen
          have lg := GG.out.lt
          have H12 := Lib.hid h1
          have H22 := Lib.hid h2
          have H42 := Lib.hid (fun i a b => (⟨(h4 i a b).1, fun k e => ((h4 i a b).2 k e).1⟩ : Ow cI 2 (W.heap.size + 1) we1 hs2[i].val _ ∧ ∀ k, hs2[i].val.ownBlock = some k → k < w5.heap.size))
          have H52 := Lib.hid h5
          have HL2 := Lib.hid hhl
          clear h1 h2 h3 h4 h5 hhl
          go_wp2_with (at_builtin; refine stopHere ?_)
          refine goHere ?_
          refine ap_any (K := cH) _ ty_intss rfl _ _ rfl (B := we1.heap.size) (v := .slice (some ⟨we1.heap.size, 0, none⟩) 0 0) (xs := []) rfl (Ow.lit (K := cH) [] rfl rfl (Nat.le_refl _)) (news := hs2) rfl (by rw [HL2.out]) (slRd (H12.out.below (below_alloc' _ _)).sl) (by have := HL2.out; simp only [List.length_nil]; omega) (by rw [size_alloc']; omega) ?_
          intro v1 wb2 ho1 hg1 hb1 hat1
          rw [List.nil_append] at ho1
          have hbw := (below_alloc' we1 (.cells #[] 27)).trans hb1
          obtain ⟨Ab, cb_, hv1⟩ := ho1.opn
          subst hv1
          have N1 := Lib.hid ho1
          have HBW := Lib.hid hbw
          have hzb := hbw.size
          clear ho1 hg1 hb1 hat1 hbw kg fg lg
          have G7 := Lib.hid (GG.out.below HBW.out GG.out.lt)
          have kg := G7.out.cell
          have fg := G7.out.frozen
          have lg := G7.out.lt
          go_wp2_with (at_builtin; refine stopHere ?_)
          refine goHere ?_
          refine ap_one (K := cH) _ ty_intss rfl _ _ rfl (B := we1.heap.size) (xs := hs2) rfl N1.out (⟨spI, fs.length, cpI⟩ : Hd) rfl rfl (by have := HL2.out; omega) hzb ?_
          intro v2 wc2 ho2 hg2 hb2 hat2
          have hbc := HBW.out.trans hb2
          have z0 := GG.out.lt
          have T2 := Lib.hid (ObS.more (hi := w5.heap.size) H22.out H42.out H52.out PPI.out (fun k e => PLI.out k e) (ho2.mono (show W.heap.size + 1 ≤ we1.heap.size by omega)) hbc (fun k hk => (ho2.block k hk).1))
          rw [← tabI_succ] at T2
          obtain ⟨A2, c2, hv2⟩ := ho2.opn
          rw [List.length_append, List.length_singleton, HL2.out] at hv2
          subst hv2
          have G8 := Lib.hid (GG.out.below hbc GG.out.lt)
          clear kg fg lg G7
          have kg := G8.out.cell
          have fg := G8.out.frozen
          have lg := G8.out.lt
          have UI := Lib.hid (ObS.setBelow T2.out (p := ⟨W.heap.size, 2, none⟩) (Nat.lt_succ_self _) (.slice A2 (x + 1) c2))
          have G9 := Lib.hid (G8.out.set_ 2 (.slice A2 (x + 1) c2))
          have XA := Lib.hid (ObS.setBelow (UA.out.below hbc) (p := ⟨W.heap.size, 2, none⟩) (Nat.lt_succ_self _) (.slice A2 (x + 1) c2))
          have XO := Lib.hid (ObS.setBelow (UO.out.below hbc) (p := ⟨W.heap.size, 2, none⟩) (Nat.lt_succ_self _) (.slice A2 (x + 1) c2))
          have B9 := Lib.hid ((BB.out.trans (hbc.mono (show W.heap.size ≤ we1.heap.size by omega))).setCell (p := ⟨W.heap.size, 2, none⟩) (Nat.le_refl _) (.slice A2 (x + 1) c2))
          have S3 : w5.heap.size ≤ (World.setCell wc2 ⟨W.heap.size, 2, none⟩ (.slice A2 (x + 1) c2)).heap.size := by have := hbc.size; simp [World.setCell]; omega
          have SS2 : wc2.heap.size ≤ (World.setCell wc2 ⟨W.heap.size, 2, none⟩ (.slice A2 (x + 1) c2)).heap.size := by simp [World.setCell]
          have SQ2 : we1.heap.size ≤ (World.setCell wc2 ⟨W.heap.size, 2, none⟩ (.slice A2 (x + 1) c2)).heap.size := by have := hbc.size; simp [World.setCell]; omega
          clear ho2 hg2 hb2 hat2 hbc T2 G8 N1 HBW H12 H22 H42 H52 z0 hzb
          go_wp2
          have Y1 := SS2
          exact ⟨⟨x + 1, by omega, by go_num, ⟨_, _, _, XA.out.wide (Nat.le_refl _) (Nat.le_trans SQ1 SQ2), XO.out.wide (Nat.le_refl _) SQ2, UI.out.wide (Nat.le_refl _) SS2, by have := G9.out; simpa using this⟩, B9.out⟩, by simp [intOf]; omega⟩
    · obtain rfl : x = fs.length := by omega
      have hT := tabI_length (qe A fs cl) fs.length fs.length
      obtain ⟨xA, yA, hxA⟩ := TA5.out.opn
      rw [hT] at hxA
      subst hxA
      clear hT
      have hT := tabI_length (qe O fs cl) fs.length fs.length
      obtain ⟨xO, yO, hxO⟩ := TO5.out.opn
      rw [hT] at hxO
      subst hxO
      clear hT
      have hT := tabI_length (qe I fs cl) fs.length fs.length
      obtain ⟨xI, yI, hxI⟩ := TI5.out.opn
      rw [hT] at hxI
      subst hxI
      clear hT
      have R5 := Lib.hid (HR.out.below B5.out (by have := HWS.out; omega))
      have kr := R5.out.cell
      have fr := R5.out.frozen
      have lr := R5.out.lt
      have kg := G5.out.cell
      have lg := G5.out.lt
      have hws := HWS.out
      have EZ : Hid ((World.setCell (World.setCell (World.setCell (World.setCell (World.setCell w5 ⟨w.heap.size + 1, 0, none⟩ (.slice xA fs.length yA)) ⟨w.heap.size + 1, 1, none⟩ (.slice xO fs.length yO)) ⟨w.heap.size + 1, 2, none⟩ (.slice xI fs.length yI)) ⟨w.heap.size + 1, 3, none⟩ (.int .i64 (cb : Int))) ⟨w.heap.size + 1, 4, none⟩ (.int .i64 (ct : Int))).heap.size = w5.heap.size) := Lib.hid (by simp [World.setCell])
      have ZA : Hid (ObS w.heap.size _ _ _ _) := Lib.hid (((ObS.setBelow (ObS.setBelow (ObS.setBelow (ObS.setBelow (ObS.setBelow TA5.out (p := ⟨w.heap.size + 1, 0, none⟩) (by show w.heap.size + 1 < _; omega) (.slice xA fs.length yA)) (p := ⟨w.heap.size + 1, 1, none⟩) (by show w.heap.size + 1 < _; omega) (.slice xO fs.length yO)) (p := ⟨w.heap.size + 1, 2, none⟩) (by show w.heap.size + 1 < _; omega) (.slice xI fs.length yI)) (p := ⟨w.heap.size + 1, 3, none⟩) (by show w.heap.size + 1 < _; omega) (.int .i64 (cb : Int))) (p := ⟨w.heap.size + 1, 4, none⟩) (by show w.heap.size + 1 < _; omega) (.int .i64 (ct : Int)))).wide (lo' := w.heap.size) (by omega) (Nat.le_refl _))
      rw [← EZ.out] at ZA
      have ZO : Hid (ObS w.heap.size _ _ _ _) := Lib.hid (((ObS.setBelow (ObS.setBelow (ObS.setBelow (ObS.setBelow (ObS.setBelow TO5.out (p := ⟨w.heap.size + 1, 0, none⟩) (by show w.heap.size + 1 < _; omega) (.slice xA fs.length yA)) (p := ⟨w.heap.size + 1, 1, none⟩) (by show w.heap.size + 1 < _; omega) (.slice xO fs.length yO)) (p := ⟨w.heap.size + 1, 2, none⟩) (by show w.heap.size + 1 < _; omega) (.slice xI fs.length yI)) (p := ⟨w.heap.size + 1, 3, none⟩) (by show w.heap.size + 1 < _; omega) (.int .i64 (cb : Int))) (p := ⟨w.heap.size + 1, 4, none⟩) (by show w.heap.size + 1 < _; omega) (.int .i64 (ct : Int)))).wide (lo' := w.heap.size) (by omega) (Nat.le_refl _))
      rw [← EZ.out] at ZO
      have ZI : Hid (ObS w.heap.size _ _ _ _) := Lib.hid (((ObS.setBelow (ObS.setBelow (ObS.setBelow (ObS.setBelow (ObS.setBelow TI5.out (p := ⟨w.heap.size + 1, 0, none⟩) (by show w.heap.size + 1 < _; omega) (.slice xA fs.length yA)) (p := ⟨w.heap.size + 1, 1, none⟩) (by show w.heap.size + 1 < _; omega) (.slice xO fs.length yO)) (p := ⟨w.heap.size + 1, 2, none⟩) (by show w.heap.size + 1 < _; omega) (.slice xI fs.length yI)) (p := ⟨w.heap.size + 1, 3, none⟩) (by show w.heap.size + 1 < _; omega) (.int .i64 (cb : Int))) (p := ⟨w.heap.size + 1, 4, none⟩) (by show w.heap.size + 1 < _; omega) (.int .i64 (ct : Int)))).wide (lo' := w.heap.size) (by omega) (Nat.le_refl _))
      rw [← EZ.out] at ZI
      have ZB := Lib.hid (Below.setCell (Below.setCell (Below.setCell (Below.setCell (Below.setCell BW5.out (p := ⟨w.heap.size + 1, 0, none⟩) (Nat.le_succ _) (.slice xA fs.length yA)) (p := ⟨w.heap.size + 1, 1, none⟩) (Nat.le_succ _) (.slice xO fs.length yO)) (p := ⟨w.heap.size + 1, 2, none⟩) (Nat.le_succ _) (.slice xI fs.length yI)) (p := ⟨w.heap.size + 1, 3, none⟩) (Nat.le_succ _) (.int .i64 (cb : Int))) (p := ⟨w.heap.size + 1, 4, none⟩) (Nat.le_succ _) (.int .i64 (ct : Int)))
      clear hws TA5 TO5 TI5 HU HV
      go_wp2
      refine bodyPost_ret (v := .agg #[.slice xA fs.length yA, .slice xO fs.length yO, .slice xI fs.length yI, .int .i64 (cb : Int), .int .i64 (ct : Int)]) (by simp [results, Tryz.results61, go_sem, kr, fr, lr]) rfl ⟨_, _, _, by rw [HCB.out, HCT.out], ZA.out, ZO.out, ZI.out, ZB.out⟩
/- Heyting algebras: the quotient by a filter, in plain words, and QuotientAlgebra of the reference. Written by gen18X.py. -/
/-- the least members of the classes, so far -/
def fsl (cl : List Nat) : Nat → List Nat
  | 0 => []
  | x + 1 => if cl.getD x 0 = (fsl cl x).length then fsl cl x ++ [x] else fsl cl x
theorem fsl_le (cl : List Nat) (x : Nat) : (fsl cl x).length ≤ x := by
  induction x with
  | zero => exact Nat.le_refl _
  | succ x ih =>
    rw [fsl]
    split
    · rw [List.length_append, List.length_singleton]; omega
    · omega
theorem fsl_lt (cl : List Nat) (x : Nat) : ∀ i, i < (fsl cl x).length → (fsl cl x).getD i 0 < x := by
  induction x with
  | zero => intro i hi; simp [fsl] at hi
  | succ x ih =>
    intro i hi
    rw [fsl] at hi ⊢
    split at hi
    · next h =>
      rw [if_pos h]
      rw [List.length_append, List.length_singleton] at hi
      by_cases h2 : i < (fsl cl x).length
      · rw [List.getD_eq_getElem?_getD, List.getElem?_append_left h2, ← List.getD_eq_getElem?_getD]
        have := ih i h2; omega
      · rw [List.getD_eq_getElem?_getD, List.getElem?_append_right (by omega), show i - (fsl cl x).length = 0 by omega]
        show x < x + 1
        omega
    · next h =>
      rw [if_neg h]
      have := ih i hi; omega
/-- a table in natural numbers -/
def nT (A : List (List Int)) : List (List Nat) := A.map fun r => r.map Int.toNat
theorem nT_lil (A : List (List Nat)) : nT (lil A) = A := by
  unfold nT lil
  rw [List.map_map]
  conv => rhs; rw [← List.map_id A]
  refine List.map_congr_left fun r _ => ?_
  show (r.map fun (i : Nat) => (i : Int)).map Int.toNat = id r
  rw [List.map_map]
  exact (List.map_congr_left fun x _ => rfl).trans (List.map_id r)
def qcl9 (A : List (List Int)) (m : Int) : List Nat := (ccl (nsOf A) m.toNat A.length).1
def qfs9 (A : List (List Int)) (m : Int) : List Nat := fsl (qcl9 A m) A.length
def qtb (X A : List (List Int)) (m : Int) : List (List Int) := tabI (qe (nT X) (qfs9 A m) (qcl9 A m)) (qfs9 A m).length (qfs9 A m).length
/-- the quotient, where there is one -/
def qTab (X A O I : List (List Int)) (b t m : Int) : List (List Int) := if fcd A O I b t m = 0 then qtb X A m else []
def qNum (x : Int) (A O I : List (List Int)) (b t m : Int) : Int := if fcd A O I b t m = 0 then ((qcl9 A m).getD x.toNat 0 : Nat) else 0
set_option maxHeartbeats 2000000 in
set_option maxRecDepth 100000 in
theorem spec_QuotientAlgebra (a o i : Value) (b t m : Int) (A O I : List (List Int)) (w : World) (h : Hy w a o i A O I) (hs : SzH A O I) :
    Calls Tryz.prog 19 #[.agg #[a, o, i, .int .i64 b, .int .i64 t], .int .i64 m] w fun e w' => ∃ u0 u1 u2 : Value, e = .returned (.tuple #[.agg #[u0, u1, u2, .int .i64 (qNum b A O I b t m), .int .i64 (qNum t A O I b t m)], .int .i64 (fcd A O I b t m)]) ∧
      ObS w.heap.size w'.heap.size w' u0 (qTab A A O I b t m) ∧ ObS w.heap.size w'.heap.size w' u1 (qTab O A O I b t m) ∧ ObS w.heap.size w'.heap.size w' u2 (qTab I A O I b t m) ∧ Below w.heap.size w w' := by
  obtain ⟨va, ca, rfl⟩ := h.a.opn
  obtain ⟨vo, co, rfl⟩ := h.o.opn
  obtain ⟨vi, ci, rfl⟩ := h.i.opn
  have IS := Lib.hid (fun W (hW : Below w.heap.size w W) => spec_l19Set _ _ _ b t m A O I W (h.below hW) hs)
  have E1 : Hid (fcd A O I b t m ≠ 0 → qNum b A O I b t m = 0 ∧ qNum t A O I b t m = 0 ∧ qTab A A O I b t m = [] ∧ qTab O A O I b t m = [] ∧ qTab I A O I b t m = []) := Lib.hid (fun hh => by unfold qNum qTab; simp only [if_neg hh]; exact ⟨trivial, trivial, trivial, trivial, trivial⟩)
  have HH := Lib.hid h
  have hbx := below_alloc' w (.cells #[.slice va A.length ca, .slice vo O.length co, .slice vi I.length ci, .int .i64 b, .int .i64 t] 26)
  have hk0 := Blk.new w 26 #[.slice va A.length ca, .slice vo O.length co, .slice vi I.length ci, .int .i64 b, .int .i64 t]
  obtain ⟨W, hW⟩ : ∃ W, (w.alloc (.cells #[.slice va A.length ca, .slice vo O.length co, .slice vi I.length ci, .int .i64 b, .int .i64 t] 26)).alloc (.cells #[.slice none 0 0, .slice none 0 0, .slice none 0 0, .int .i64 0, .int .i64 0] 26) = W := ⟨_, rfl⟩
  have hb2 := below_alloc' (w.alloc (.cells #[.slice va A.length ca, .slice vo O.length co, .slice vi I.length ci, .int .i64 b, .int .i64 t] 26)) (.cells #[.slice none 0 0, .slice none 0 0, .slice none 0 0, .int .i64 0, .int .i64 0] 26)
  rw [hW] at hb2
  have BW := Lib.hid (bthen hbx hb2)
  have HK := Lib.hid (hk0.below hb2 hk0.lt)
  have HR : Hid (Blk W (w.heap.size + 1) 26 #[.slice none 0 0, .slice none 0 0, .slice none 0 0, .int .i64 0, .int .i64 0]) := Lib.hid (by rw [← hW]; exact Blk.new' _ _ _ (by simp))
  have HWS : Hid (W.heap.size = w.heap.size + 2) := Lib.hid (by rw [← hW]; simp)
  clear hbx hk0 h
  go_enter Tryz.func19, Tryz.ntmps19
  go_upto_region 1 with fail
  try rw [hW]
  clear hW hb2
  have k0 := HK.out.cell
  have l0 := HK.out.lt
  go_wp2_with fail
  refine (IS.out _ BW.out).mono ?_
  rintro e w1 ⟨rfl, hb⟩
  have B1 := Lib.hid (bthen BW.out hb)
  have K1 := Lib.hid (HK.out.below hb l0)
  have R1 := Lib.hid (HR.out.below hb HR.out.lt)
  have WS1 := Lib.hid (show w.heap.size + 2 ≤ w1.heap.size by have := hb.size; have := HWS.out; omega)
  clear k0 l0 hb IS HK HR BW HWS
  by_cases e1 : fcd A O I b t m = 0
  rotate_left
  · have E := Lib.hid (E1.out e1)
    have q1 : (fcd A O I b t m != 0) = true := bne_iff_ne.2 e1
    obtain ⟨z, hz⟩ : ∃ z, fcd A O I b t m = z := ⟨_, rfl⟩
    have HZ := Lib.hid hz
    rw [hz] at q1 ⊢
    clear e1 E1 hz
    have kr := R1.out.cell
    have fr := R1.out.frozen
    have lr := R1.out.lt
    go_wp2
    refine bodyPost_ret (v := .tuple #[.agg #[.slice none 0 0, .slice none 0 0, .slice none 0 0, .int .i64 0, .int .i64 0], .int .i64 z]) (by simp [results, Tryz.results19, go_sem, kr, fr, lr]) rfl ⟨_, _, _, by rw [HZ.out, E.out.1, E.out.2.1], ?_, ?_, ?_, ?_⟩
    · rw [E.out.2.2.1]; exact ObS.nil _ _ _
    · rw [E.out.2.2.2.1]; exact ObS.nil _ _ _
    · rw [E.out.2.2.2.2]; exact ObS.nil _ _ _
    · exact (Below.setCell (Below.setCell (Below.setCell (Below.setCell (Below.setCell B1.out (p := ⟨w.heap.size + 1, 0, none⟩) (Nat.le_succ _) (.slice none 0 0)) (p := ⟨w.heap.size + 1, 1, none⟩) (Nat.le_succ _) (.slice none 0 0)) (p := ⟨w.heap.size + 1, 2, none⟩) (Nat.le_succ _) (.slice none 0 0)) (p := ⟨w.heap.size + 1, 3, none⟩) (Nat.le_succ _) (.int .i64 0)) (p := ⟨w.heap.size + 1, 4, none⟩) (Nat.le_succ _) (.int .i64 0))
  obtain ⟨A1, O1, I1, b1, t1, m1, rfl, rfl, rfl, rfl, rfl, rfl, hm, hT, hf⟩ := fcd_0 e1
  have LA := Lib.hid (lil_length A1)
  have E0 := Lib.hid e1
  have EV : Hid (qNum b1 (lil A1) (lil O1) (lil I1) b1 t1 m1 = (((ccl (ordH A1) m1 A1.length).1.getD b1 0 : Nat) : Int) ∧ qNum t1 (lil A1) (lil O1) (lil I1) b1 t1 m1 = (((ccl (ordH A1) m1 A1.length).1.getD t1 0 : Nat) : Int)) := Lib.hid (by
    unfold qNum qcl9
    rw [if_pos e1, if_pos e1, nsOf_lil, LA.out, Int.toNat_natCast, Int.toNat_natCast, Int.toNat_natCast]
    exact ⟨rfl, rfl⟩)
  have ET : Hid (∀ X : List (List Nat), qTab (lil X) (lil A1) (lil O1) (lil I1) b1 t1 m1 = tabI (qe X (fsl (ccl (ordH A1) m1 A1.length).1 A1.length) (ccl (ordH A1) m1 A1.length).1) (fsl (ccl (ordH A1) m1 A1.length).1 A1.length).length (fsl (ccl (ordH A1) m1 A1.length).1 A1.length).length) := Lib.hid (fun X => by
    unfold qTab qtb qfs9 qcl9
    rw [if_pos e1, nsOf_lil, LA.out, Int.toNat_natCast, nT_lil])
  have h30 := hT.n30
  have CLS := Lib.hid (fun W (hW : Below w.heap.size w W) => spec_l19Classes _ _ _ A1 O1 I1 b1 t1 m1 W (HH.out.below hW) hT hm hf)
  have hcl := ccl_length (ordH A1) m1 A1.length
  have hcx : ∀ x ∈ (ccl (ordH A1) m1 A1.length).1, x < 1073741824 := fun x hx => by
    have h1 := dvd_lt _ _ x hx
    have h2 := dvd_count (fun y => (rlM (ordH A1) m1).getD y 0) A1.length
    omega
  rw [e1]
  obtain ⟨cl, hcl9⟩ : ∃ cl, (ccl (ordH A1) m1 A1.length).1 = cl := ⟨_, rfl⟩
  rw [hcl9] at CLS EV ET hcl hcx
  have LV := Lib.hid (show (li cl).length = A1.length by rw [li_length, hcl])
  have HCX := Lib.hid (fun i => show cl.getD i 0 < 1073741824 by
    rcases Nat.lt_or_ge i cl.length with h9 | h9
    · rw [getD_at h9]; exact hcx _ (List.getElem_mem h9)
    · rw [List.getD_eq_getElem?_getD, List.getElem?_eq_none h9]; exact (by decide : (0 : Nat) < 1073741824))
  have TBL := Lib.hid (fun u v fs W (hW : Below w.heap.size w W) (hu : Sl cI W u (li fs)) (hv : Sl cI W v (li cl)) (hfs : ∀ i, i < fs.length → fs.getD i 0 < A1.length) (hfl : fs.length ≤ 30) => spec_l19Tables _ _ _ u v A1 O1 I1 b1 t1 A1.length fs cl W (HH.out.below hW) hT.tA hT.tO hT.tI h30 hT.bl hT.tl hu hv hcl hfs hfl)
  clear e1 E1 hcl9 hT hm hf hcx HH
  have k0 := K1.out.cell
  have l0 := K1.out.lt
  go_wp2_with fail
  refine (CLS.out _ B1.out).mono ?_
  rintro e w2 ⟨u, rfl, ho, hb⟩
  obtain ⟨vc, cc, rfl⟩ := ho.opn
  rw [LV.out] at ho ⊢
  have HC2 := Lib.hid ho.sl
  have B2 := Lib.hid (bthen B1.out hb)
  have K2 := Lib.hid (K1.out.below hb l0)
  have R2 := Lib.hid (R1.out.below hb R1.out.lt)
  have z12 := hb.size
  clear k0 l0 hb ho CLS
  go_wp2
  go_loopw [8, 9] (fun v i wr => ∃ x : Nat, x ≤ A1.length ∧ i = .int .i64 x ∧ Ow cI 2 w2.heap.size wr v (li (fsl cl x)) ∧ Below w2.heap.size w2 wr) (fun _ i _ => A1.length - (intOf i).toNat)
  case atStart => exact ⟨0, Nat.zero_le _, rfl, Ow.lit (K := cI) [] rfl rfl (Nat.le_refl _), below_alloc' _ _⟩
  case round =>
    obtain ⟨x, hx, rfl, ho, hb⟩ := hrel
    obtain ⟨w3, hw3⟩ : ∃ W, W = wr := ⟨_, rfl⟩
    subst hw3
    obtain ⟨vl, c3, rfl⟩ := ho.opn
    have LL := Lib.hid (li_length (fsl cl x))
    rw [LL.out] at ho ⊢
    have O3 := Lib.hid ho
    have B3 := Lib.hid hb
    have HLE := fsl_le cl x
    clear ho hb
    by_cases hlt : x < A1.length
    · obtain ⟨bc, oc, ec, hbc, hcc⟩ := (HC2.out.below B3.out).atI (k := x) (by rw [LV.out]; exact hlt)
      subst ec
      rw [li_get] at hcc
      have hz := HCX.out x
      have hz3 := B3.out.size
      have EE := Lib.hid (eqI (cl.getD x 0) (fsl cl x).length)
      by_cases hq : cl.getD x 0 = (fsl cl x).length
      · have ES : Hid (fsl cl (x + 1) = fsl cl x ++ [x]) := Lib.hid (by rw [fsl, if_pos hq])
        have q1 : ((cl.getD x 0 : Int) == ((fsl cl x).length : Int)) = true := by rw [EE.out, decide_eq_true hq]
        clear hq EE
        obtain ⟨L, hL⟩ : ∃ L, li (fsl cl x) = L := ⟨_, rfl⟩
        rw [hL] at O3 LL
        have HL9 := Lib.hid hL
        generalize (fsl cl x).length = nl at *
        generalize cl.getD x 0 = z at *
        clear hL
        go_wp2_with (at_builtin; refine stopHere ?_)
        refine goHere ?_
        refine ap_one (K := cI) _ ty_int64 rfl _ _ rfl (B := w2.heap.size) (v := .slice vl nl c3) (xs := L) rfl O3.out (x : Int) rfl rfl (by have := LL.out; omega) hz3 ?_
        intro v1 w4 ho1 hg1 hb1 hat1
        have O4 := Lib.hid ho1
        have B4 := Lib.hid (B3.out.trans hb1)
        clear ho1 hg1 hb1 hat1
        go_wp2
        exact ⟨⟨x + 1, by omega, by go_num, by rw [ES.out, li_snocP, HL9.out]; exact O4.out, B4.out⟩, by simp [intOf]; omega⟩
      · have ES : Hid (fsl cl (x + 1) = fsl cl x) := Lib.hid (by rw [fsl, if_neg hq])
        have q1 : ((cl.getD x 0 : Int) == ((fsl cl x).length : Int)) = false := by rw [EE.out, decide_eq_false hq]
        clear hq EE
        generalize hnl : (fsl cl x).length = nl at *
        generalize cl.getD x 0 = z at *
        clear hnl
        go_wp2
        exact ⟨⟨x + 1, by omega, by go_num, by rw [ES.out]; exact O3.out, B3.out⟩, by simp [intOf]; omega⟩
    · obtain rfl : x = A1.length := by omega
      have hfs := fsl_lt cl A1.length
      obtain ⟨fs, hfs9⟩ : ∃ fs, fsl cl A1.length = fs := ⟨_, rfl⟩
      rw [hfs9] at O3 ET hfs HLE LL ⊢
      have K3 := Lib.hid (K2.out.below B3.out K2.out.lt)
      have R3 := Lib.hid (R2.out.below B3.out R2.out.lt)
      have z23 := B3.out.size
      have T3 := Lib.hid (TBL.out _ _ fs w3 (bthen B2.out B3.out) O3.out.sl (HC2.out.below B3.out) hfs (by omega))
      have k0 := K3.out.cell
      have l0 := K3.out.lt
      have hws := WS1.out
      clear hfs9 TBL hfs
      go_wp2_with fail
      refine T3.out.mono ?_
      rintro e w4 ⟨x0, x1, x2, rfl, oA, oO, oI, hb⟩
      have R4 := Lib.hid (R3.out.below hb R3.out.lt)
      have B4 := Lib.hid (bthen (bthen B2.out B3.out) hb)
      obtain ⟨xA, yA, rfl⟩ := oA.opn
      obtain ⟨xO, yO, rfl⟩ := oO.opn
      obtain ⟨xI, yI, rfl⟩ := oI.opn
      have e9A := ET.out A1
      have e9O := ET.out O1
      have e9I := ET.out I1
      rw [← e9A] at oA ⊢
      rw [← e9O] at oO ⊢
      rw [← e9I] at oI ⊢
      generalize (qTab (lil A1) (lil A1) (lil O1) (lil I1) b1 t1 m1).length = nA at *
      generalize (qTab (lil O1) (lil A1) (lil O1) (lil I1) b1 t1 m1).length = nO at *
      generalize (qTab (lil I1) (lil A1) (lil O1) (lil I1) b1 t1 m1).length = nI at *
      generalize cl.getD b1 0 = cb at *
      generalize cl.getD t1 0 = ct at *
      have EZ : Hid ((World.setCell (World.setCell (World.setCell (World.setCell (World.setCell w4 ⟨w.heap.size + 1, 0, none⟩ (.slice xA nA yA)) ⟨w.heap.size + 1, 1, none⟩ (.slice xO nO yO)) ⟨w.heap.size + 1, 2, none⟩ (.slice xI nI yI)) ⟨w.heap.size + 1, 3, none⟩ (.int .i64 (cb : Int))) ⟨w.heap.size + 1, 4, none⟩ (.int .i64 (ct : Int))).heap.size = w4.heap.size) := Lib.hid (by simp [World.setCell])
      have ZA : Hid (ObS w.heap.size _ _ _ _) := Lib.hid (((ObS.setBelow (ObS.setBelow (ObS.setBelow (ObS.setBelow (ObS.setBelow oA (p := ⟨w.heap.size + 1, 0, none⟩) (by show w.heap.size + 1 < _; omega) (.slice xA nA yA)) (p := ⟨w.heap.size + 1, 1, none⟩) (by show w.heap.size + 1 < _; omega) (.slice xO nO yO)) (p := ⟨w.heap.size + 1, 2, none⟩) (by show w.heap.size + 1 < _; omega) (.slice xI nI yI)) (p := ⟨w.heap.size + 1, 3, none⟩) (by show w.heap.size + 1 < _; omega) (.int .i64 (cb : Int))) (p := ⟨w.heap.size + 1, 4, none⟩) (by show w.heap.size + 1 < _; omega) (.int .i64 (ct : Int)))).wide (lo' := w.heap.size) (by omega) (Nat.le_refl _))
      have ZO : Hid (ObS w.heap.size _ _ _ _) := Lib.hid (((ObS.setBelow (ObS.setBelow (ObS.setBelow (ObS.setBelow (ObS.setBelow oO (p := ⟨w.heap.size + 1, 0, none⟩) (by show w.heap.size + 1 < _; omega) (.slice xA nA yA)) (p := ⟨w.heap.size + 1, 1, none⟩) (by show w.heap.size + 1 < _; omega) (.slice xO nO yO)) (p := ⟨w.heap.size + 1, 2, none⟩) (by show w.heap.size + 1 < _; omega) (.slice xI nI yI)) (p := ⟨w.heap.size + 1, 3, none⟩) (by show w.heap.size + 1 < _; omega) (.int .i64 (cb : Int))) (p := ⟨w.heap.size + 1, 4, none⟩) (by show w.heap.size + 1 < _; omega) (.int .i64 (ct : Int)))).wide (lo' := w.heap.size) (by omega) (Nat.le_refl _))
      have ZI : Hid (ObS w.heap.size _ _ _ _) := Lib.hid (((ObS.setBelow (ObS.setBelow (ObS.setBelow (ObS.setBelow (ObS.setBelow oI (p := ⟨w.heap.size + 1, 0, none⟩) (by show w.heap.size + 1 < _; omega) (.slice xA nA yA)) (p := ⟨w.heap.size + 1, 1, none⟩) (by show w.heap.size + 1 < _; omega) (.slice xO nO yO)) (p := ⟨w.heap.size + 1, 2, none⟩) (by show w.heap.size + 1 < _; omega) (.slice xI nI yI)) (p := ⟨w.heap.size + 1, 3, none⟩) (by show w.heap.size + 1 < _; omega) (.int .i64 (cb : Int))) (p := ⟨w.heap.size + 1, 4, none⟩) (by show w.heap.size + 1 < _; omega) (.int .i64 (ct : Int)))).wide (lo' := w.heap.size) (by omega) (Nat.le_refl _))
      rw [← EZ.out] at ZA ZO ZI
      have ZB := Lib.hid (Below.setCell (Below.setCell (Below.setCell (Below.setCell (Below.setCell B4.out (p := ⟨w.heap.size + 1, 0, none⟩) (Nat.le_succ _) (.slice xA nA yA)) (p := ⟨w.heap.size + 1, 1, none⟩) (Nat.le_succ _) (.slice xO nO yO)) (p := ⟨w.heap.size + 1, 2, none⟩) (Nat.le_succ _) (.slice xI nI yI)) (p := ⟨w.heap.size + 1, 3, none⟩) (Nat.le_succ _) (.int .i64 (cb : Int))) (p := ⟨w.heap.size + 1, 4, none⟩) (Nat.le_succ _) (.int .i64 (ct : Int)))
      have kr := R4.out.cell
      have fr := R4.out.frozen
      have lr := R4.out.lt
      clear k0 l0 oA oO oI hb hws e9A e9O e9I ET z12 z23
      go_wp2
      refine bodyPost_ret (v := .tuple #[.agg #[.slice xA nA yA, .slice xO nO yO, .slice xI nI yI, .int .i64 (cb : Int), .int .i64 (ct : Int)], .int .i64 0]) (by simp [results, Tryz.results19, go_sem, kr, fr, lr]) rfl ⟨_, _, _, by rw [E0.out, EV.out.1, EV.out.2], ZA.out, ZO.out, ZI.out, ZB.out⟩
end Go.Proofs.YtgkogfjifcfkoaaGreat

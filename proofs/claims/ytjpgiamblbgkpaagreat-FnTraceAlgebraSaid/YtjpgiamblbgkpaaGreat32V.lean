/- Contracts of chapter 32: MeetTraces, of the reference. -/
import Derived.Test.YtjpgiamblbgkpaaGreatM32T
import Derived.Test.YtjpgiamblbgkpaaGreatB4
import Derived.Test.YtjpgiamblbgkpaaGreatSch
namespace Go.Proofs.YtjpgiamblbgkpaaGreat
open Go.RowKit
set_option linter.unusedVariables false
set_option linter.unusedSimpArgs false
/-- the ranks below k that the meet lists -/
def mtL (bt : Bool) (xs : List Int) (bu : Bool) (ys : List Int) (k : Nat) : List Int := ((List.range k).map fun (n : Nat) => (n : Int)).filter (mtB bt xs bu ys)
theorem mtL_end (bt : Bool) (xs : List Int) (bu : Bool) (ys : List Int) : mtL bt xs bu ys 61 = mtR bt xs bu ys := rfl
theorem mtL_succ (bt : Bool) (xs : List Int) (bu : Bool) (ys : List Int) (k : Nat) : mtL bt xs bu ys (k + 1) = mtL bt xs bu ys k ++ if mtB bt xs bu ys k then [(k : Int)] else [] := by
  unfold mtL
  rw [List.range_succ, List.map_append, List.filter_append]
  simp only [List.map_cons, List.map_nil, List.filter_cons, List.filter_nil]
theorem mtL_len (bt : Bool) (xs : List Int) (bu : Bool) (ys : List Int) (k : Nat) : (mtL bt xs bu ys k).length ≤ k := by
  have := List.length_filter_le (mtB bt xs bu ys) ((List.range k).map fun (n : Nat) => (n : Int))
  simpa [mtL] using this
/-- the result that is being made: its box, and its list in memory of its own -/
structure MT (B g : Nat) (fin : Bool) (ov : Value) (L : List Int) (w X : World) : Prop where
  blk : Blk X g 26 #[.bool fin, ov]
  o : Ow cI 2 B X ov L
  gB : B ≤ g
  ne : ov.ownBlock ≠ some g
  be : Below B w X
theorem MT.below {B g : Nat} {fin : Bool} {ov : Value} {L : List Int} {w X Y : World} (h : MT B g fin ov L w X) (hb : Below X.heap.size X Y) (hB : B ≤ X.heap.size) : MT B g fin ov L w Y :=
  ⟨h.blk.below hb h.blk.lt, h.o.below hb, h.gB, h.ne, h.be.trans (hb.mono hB)⟩
theorem MT.push {B g : Nat} {fin : Bool} {ov v1 : Value} {L : List Int} {j : Int} {w X Y : World} {cs : Array Value} (h : MT B g fin ov L w X) (ho : Ow cI 2 B Y v1 (L ++ [j])) (hg : (X.alloc (.cells cs 2)).grownBy Y ov.ownBlock) (hb : Below B X Y) (hat : v1.ownBlock = ov.ownBlock ∨ v1.ownBlock = some (X.heap.size + 1)) :
    Blk Y g 26 #[.bool fin, ov] ∧ MT B g fin v1 (L ++ [j]) w (Y.setCell ⟨g, 1, none⟩ v1) := by
  have hk : Blk Y g 26 #[.bool fin, ov] := (h.blk.alloc _).grown hg (fun e => h.ne e.symm)
  have ne1 : v1.ownBlock ≠ some g := by
    intro e
    rcases hat with h1 | h1
    · exact h.ne (h1 ▸ e)
    · rw [h1] at e
      injection e with e
      have := h.blk.lt
      omega
  exact ⟨hk, hk.set_ 1 _, ho.far ne1 _, h.gB, ne1, (h.be.trans hb).setCell h.gB _⟩
theorem spec_MeetTraces_bad (v u : Value) (bt bu : Bool) (xs ys : List Int) (w : World) (h : Sl cI w v xs) (h' : Sl cI w u ys) (hl : xs.length ≤ 1048576) (hl' : ys.length ≤ 1048576) (hc : okT xs = false ∨ (okT xs = true ∧ okT ys = false)) :
    Calls Tryz.prog 7 #[.agg #[.bool bt, v], .agg #[.bool bu, u]] w fun e w' => e = .returned (.tuple #[.agg #[.bool false, .slice none 0 0], .int .i64 1]) ∧ Below w.heap.size w w' := by
  obtain ⟨A, c, rfl⟩ := h.opn
  obtain ⟨A', c', rfl⟩ := h'.opn
  have hb0 := below_alloc' w (.cells #[.bool bt, .slice A xs.length c] 26)
  have hk0 := Blk.new w 26 #[.bool bt, .slice A xs.length c]
  have hb1 := below_alloc' (w.alloc (.cells #[.bool bt, .slice A xs.length c] 26)) (.cells #[.bool bu, .slice A' ys.length c'] 26)
  have hk1 : Blk _ (w.heap.size + 1) _ _ := Blk.new' (w.alloc (.cells #[.bool bt, .slice A xs.length c] 26)) 26 #[.bool bu, .slice A' ys.length c'] (by simp)
  have hb2 := below_alloc' ((w.alloc (.cells #[.bool bt, .slice A xs.length c] 26)).alloc (.cells #[.bool bu, .slice A' ys.length c'] 26)) (.cells #[.bool false, .slice none 0 0] 26)
  have hk2 : Blk _ (w.heap.size + 2) _ _ := Blk.new' ((w.alloc (.cells #[.bool bt, .slice A xs.length c] 26)).alloc (.cells #[.bool bu, .slice A' ys.length c'] 26)) 26 #[.bool false, .slice none 0 0] (by simp)
  have HB := Lib.hid (bthen (bthen hb0 hb1) hb2)
  have HK0 := Lib.hid ((hk0.below hb1 hk0.lt).below hb2 (hk0.below hb1 hk0.lt).lt)
  have HK1 := Lib.hid (hk1.below hb2 hk1.lt)
  have HK2 := Lib.hid hk2
  have HT := Lib.hid (fun W (hW : Below w.heap.size w W) => spec_l32Valid _ bt xs W (h.below hW) hl)
  have HU := Lib.hid (fun W (hW : Below w.heap.size w W) => spec_l32Valid _ bu ys W (h'.below hW) hl')
  clear hb0 hb1 hk0 hk1 hb2 hk2 h h'
  go_enter Tryz.func7, Tryz.ntmps7
  go_upto_region 1 with fail
  generalize World.alloc (World.alloc (w.alloc _) _) _ = W at *
  have k0 := HK0.out.cell
  have l0 := HK0.out.lt
  have k1 := HK1.out.cell
  have l1 := HK1.out.lt
  have k2 := HK2.out.cell
  have f2 := HK2.out.frozen
  have l2 := HK2.out.lt
  rcases hc with hc | ⟨hc0, hc⟩
  · rw [hc] at HT
    go_wp2_with fail
    refine (HT.out _ HB.out).mono ?_
    rintro e w1 ⟨rfl, hb⟩
    have q2 := HK2.out.below hb l2
    have HB1 := Lib.hid (bthen HB.out hb)
    clear k0 k1 k2 f2 hb
    have k2 := q2.cell
    have f2 := q2.frozen
    have l2 := q2.lt
    clear q2
    go_wp2
    refine bodyPost_ret (v := .tuple #[.agg #[.bool false, .slice none 0 0], .int .i64 1]) (by simp [results, Tryz.results7, go_sem, k2, f2, l2]) rfl ⟨rfl, ?_⟩
    exact (HB1.out.setCell (by show w.heap.size ≤ w.heap.size + 2; omega) _).setCell (by show w.heap.size ≤ w.heap.size + 2; omega) _
  · rw [hc0] at HT
    rw [hc] at HU
    go_wp2_with fail
    refine (HT.out _ HB.out).mono ?_
    rintro e w1 ⟨rfl, hb⟩
    have q1 := HK1.out.below hb l1
    have q2 := HK2.out.below hb l2
    have HB1 := Lib.hid (bthen HB.out hb)
    clear k0 k1 k2 f2 hb
    have k1 := q1.cell
    have l1 := q1.lt
    have HQ2 := Lib.hid q2
    clear q1 q2
    go_wp2_with fail
    refine (HU.out _ HB1.out).mono ?_
    rintro e w2 ⟨rfl, hb⟩
    have q2 := HQ2.out.below hb HQ2.out.lt
    have HB2 := Lib.hid (bthen HB1.out hb)
    clear k1 hb
    have k2 := q2.cell
    have f2 := q2.frozen
    have l2 := q2.lt
    clear q2
    go_wp2
    refine bodyPost_ret (v := .tuple #[.agg #[.bool false, .slice none 0 0], .int .i64 1]) (by simp [results, Tryz.results7, go_sem, k2, f2, l2]) rfl ⟨rfl, ?_⟩
    exact (HB2.out.setCell (by show w.heap.size ≤ w.heap.size + 2; omega) _).setCell (by show w.heap.size ≤ w.heap.size + 2; omega) _
set_option maxHeartbeats 2000000 in
set_option maxRecDepth 100000 in
theorem spec_MeetTraces_ok (v u : Value) (bt bu : Bool) (xs ys : List Int) (w : World) (h : Sl cI w v xs) (h' : Sl cI w u ys) (hl : xs.length ≤ 1048576) (hl' : ys.length ≤ 1048576) (hc : okT xs = true) (hc' : okT ys = true) :
    Calls Tryz.prog 7 #[.agg #[.bool bt, v], .agg #[.bool bu, u]] w fun e w' => ∃ r, e = .returned (.tuple #[.agg #[.bool (bt || bu), r], .int .i64 0]) ∧ Ow cI 2 w.heap.size w' r (mtR bt xs bu ys) ∧ Below w.heap.size w w' := by
  obtain ⟨A, c, rfl⟩ := h.opn
  obtain ⟨A', c', rfl⟩ := h'.opn
  have hb0 := below_alloc' w (.cells #[.bool bt, .slice A xs.length c] 26)
  have hk0 := Blk.new w 26 #[.bool bt, .slice A xs.length c]
  have hb1 := below_alloc' (w.alloc (.cells #[.bool bt, .slice A xs.length c] 26)) (.cells #[.bool bu, .slice A' ys.length c'] 26)
  have hk1 : Blk _ (w.heap.size + 1) _ _ := Blk.new' (w.alloc (.cells #[.bool bt, .slice A xs.length c] 26)) 26 #[.bool bu, .slice A' ys.length c'] (by simp)
  have hb2 := below_alloc' ((w.alloc (.cells #[.bool bt, .slice A xs.length c] 26)).alloc (.cells #[.bool bu, .slice A' ys.length c'] 26)) (.cells #[.bool false, .slice none 0 0] 26)
  have hk2 : Blk _ (w.heap.size + 2) _ _ := Blk.new' ((w.alloc (.cells #[.bool bt, .slice A xs.length c] 26)).alloc (.cells #[.bool bu, .slice A' ys.length c'] 26)) 26 #[.bool false, .slice none 0 0] (by simp)
  have HB := Lib.hid (bthen (bthen hb0 hb1) hb2)
  have HK0 := Lib.hid ((hk0.below hb1 hk0.lt).below hb2 (hk0.below hb1 hk0.lt).lt)
  have HK1 := Lib.hid (hk1.below hb2 hk1.lt)
  have HK2 := Lib.hid hk2
  have HT := Lib.hid (fun W (hW : Below w.heap.size w W) => hc ▸ spec_l32Valid _ bt xs W (h.below hW) hl)
  have HU := Lib.hid (fun W (hW : Below w.heap.size w W) => hc' ▸ spec_l32Valid _ bu ys W (h'.below hW) hl')
  have HH1 := Lib.hid (fun W (x : Int) (hW : Below w.heap.size w W) => spec_l32Has _ bt xs x W (h.below hW) hl)
  have HH2 := Lib.hid (fun W (x : Int) (hW : Below w.heap.size w W) => spec_l32Has _ bu ys x W (h'.below hW) hl')
  clear hb0 hb1 hk0 hk1 hb2 hk2 h h' hc hc'
  go_enter Tryz.func7, Tryz.ntmps7
  go_upto_region 1 with fail
  generalize World.alloc (World.alloc (w.alloc _) _) _ = W at *
  have k0 := HK0.out.cell
  have l0 := HK0.out.lt
  go_wp2_with fail
  refine (HT.out _ HB.out).mono ?_
  rintro e w1 ⟨rfl, hb⟩
  have HQ0 := Lib.hid (HK0.out.below hb l0)
  have HQ1 := Lib.hid (HK1.out.below hb HK1.out.lt)
  have HQ2 := Lib.hid (HK2.out.below hb HK2.out.lt)
  have HB1 := Lib.hid (bthen HB.out hb)
  clear k0 hb l0
  have k1 := HQ1.out.cell
  have l1 := HQ1.out.lt
  go_wp2_with fail
  refine (HU.out _ HB1.out).mono ?_
  rintro e w2 ⟨rfl, hb⟩
  have HR0 := Lib.hid (HQ0.out.below hb HQ0.out.lt)
  have HR1 := Lib.hid (HQ1.out.below hb l1)
  have HR2 := Lib.hid (HQ2.out.below hb HQ2.out.lt)
  have HB2 := Lib.hid (bthen HB1.out hb)
  clear k1 hb l1
  have k0 := HR0.out.cell
  have l0 := HR0.out.lt
  have k1 := HR1.out.cell
  have l1 := HR1.out.lt
  go_upto_region 3 with fail
  go_cut [6] (fun p X => p = .pointer (some ⟨w2.heap.size + 1, 0, none⟩) ∧ MT w2.heap.size (w2.heap.size + 1) (bt || bu) (.slice (some ⟨w2.heap.size, 0, none⟩) 0 0) [] w2 X)
  case first =>
    have k00 : w2.cell? ⟨w.heap.size, 0, none⟩ = some (.bool bt) := k0 0
    have k10 : w2.cell? ⟨w.heap.size + 1, 0, none⟩ = some (.bool bu) := k1 0
    have HMT : ∀ fin : Bool, MT w2.heap.size (w2.heap.size + 1) fin (.slice (some ⟨w2.heap.size, 0, none⟩) 0 0) [] w2 ((w2.alloc (.cells #[] 2)).alloc (.cells #[.bool fin, .slice (some ⟨w2.heap.size, 0, none⟩) 0 0] 26)) := fun fin => ⟨Blk.new' _ _ _ (by simp), (Ow.lit (K := cI) [] rfl rfl (Nat.le_refl _)).alloc _, by omega, fun e => by injection e with e; have e' : w2.heap.size = w2.heap.size + 1 := e; omega, (below_alloc' _ _).trans ((below_alloc' _ _).mono (by simp))⟩
    have HM := Lib.hid HMT
    clear HMT k0 k1
    cases bt
    all_goals go_wp2_with fail
    all_goals go_meet
    all_goals exact ⟨rfl, HM.out _⟩
  case rest =>
    obtain ⟨rfl, hmt⟩ := hcut
    have HM := Lib.hid hmt
    have HW2 := Lib.hid (show w.heap.size + 2 < w2.heap.size from HR2.out.lt)
    obtain ⟨fin, hfin⟩ : ∃ fin, (bt || bu) = fin := ⟨_, rfl⟩
    have HFI := Lib.hid hfin
    rw [hfin] at HM
    clear hmt k0 k1 l0 l1
    go_wp2
    go_loopw [7] (fun i wr => ∃ j : Nat, j ≤ 61 ∧ i = .int .i64 j ∧ ∃ ov, MT w2.heap.size (w2.heap.size + 1) fin ov (mtL bt xs bu ys j) w2 wr) (fun i _ => 61 - (intOf i).toNat)
    case atStart => exact ⟨0, Nat.zero_le _, rfl, _, HM.out⟩
    case round =>
      obtain ⟨j, hj, rfl, ov, hs⟩ := hrel
      obtain ⟨Ao, co, rfl⟩ := hs.o.opn
      have HS := Lib.hid hs
      have HBo := Lib.hid (bthen HB2.out hs.be)
      by_cases hlt : j < 61
      · have hbe := hs.be
        have q0 := HR0.out.below hbe HR0.out.lt
        have q1 := HR1.out.below hbe HR1.out.lt
        have k00 : wr.cell? ⟨w.heap.size, 0, none⟩ = some (.bool bt) := q0.cell 0
        have k01 : wr.cell? ⟨w.heap.size, 1, none⟩ = some (.slice A xs.length c) := q0.cell 1
        have k10 : wr.cell? ⟨w.heap.size + 1, 0, none⟩ = some (.bool bu) := q1.cell 0
        have k11 : wr.cell? ⟨w.heap.size + 1, 1, none⟩ = some (.slice A' ys.length c') := q1.cell 1
        have l0 := q0.lt
        have l1 := q1.lt
        have g0 : wr.cell? ⟨w2.heap.size + 1, 0, none⟩ = some (.bool fin) := hs.blk.cell 0
        have lg := hs.blk.lt
        obtain ⟨z1, hz1⟩ : ∃ z1, (decide ((j : Int) ∈ xs) == bt) = z1 := ⟨_, rfl⟩
        obtain ⟨z2, hz2⟩ : ∃ z2, (decide ((j : Int) ∈ ys) == bu) = z2 := ⟨_, rfl⟩
        have HC1 := Lib.hid (fun X (hX : Below wr.heap.size wr X) => HH1.out X j (bthen HBo.out hX))
        have HC2 := Lib.hid (fun X (hX : Below wr.heap.size wr X) => HH2.out X j (bthen HBo.out hX))
        rw [hz1] at HC1
        rw [hz2] at HC2
        have HB' : Hid (mtB bt xs bu ys j = ((z1 && z2) == fin)) := Lib.hid (by unfold mtB; rw [hz1, hz2, HFI.out])
        have HSU := Lib.hid (mtL_succ bt xs bu ys j)
        rw [HB'.out] at HSU
        have HLe := Lib.hid (mtL_len bt xs bu ys j)
        clear hs hz1 hz2 q0 q1
        have hI := (Below.refl wr.heap.size wr).drew
        have HW := Lib.hid hbe.size
        have k1o : wr.cell? ⟨w2.heap.size + 1, 1, none⟩ = some (.slice Ao (mtL bt xs bu ys j).length co) := HS.out.blk.cell 1
        have HK1O := Lib.hid k1o
        clear k1o hfin
        go_upto_region 7 with fail
        cases fin
        all_goals
          refine wp_region_sched (Below wr.heap.size wr) 11 [0, 1, 3, 4, 5, 7, 8, 9, 10] [0, 1, 8, 9, 2, 3, 4, 5, 6, 7, 10] (by kernel_rfl) (by kernel_rfl) hI ?_
          repeat
            apply wpSched_q rfl rfl
            case h =>
              intro w' hI K hK
              have k00' := (hI.cell (p := ⟨w.heap.size, 0, none⟩) l0).trans k00
              have k01' := (hI.cell (p := ⟨w.heap.size, 1, none⟩) l0).trans k01
              have g0' := (hI.cell (p := ⟨w2.heap.size + 1, 0, none⟩) lg).trans g0
              simp only [quietV, stillV]
              go_simp
              exact hK
            go_simp
          refine wpSched_r rfl rfl ?_ hI
          intro K hK _
          go_simp
          refine (HC1.out _ hI).mono ?_
          rintro e w8 ⟨rfl, hb⟩
          replace hI := hI.trans (hb.mono hI.size)
          refine hK _ _ hI ?_
          clear hK K hb
          cases z1
          · skip
            repeat
              apply wpSched_q rfl rfl
              case h =>
                intro w' hI K hK
                simp only [quietV, stillV]
                go_simp
                exact hK
              go_simp
            refine wpSched_r rfl rfl ?_ hI
            intro K hK _
            go_simp
            refine hK _ _ hI ?_
            clear hK K
            repeat
              apply wpSched_q rfl rfl
              case h =>
                intro w' hI K hK
                simp only [quietV, stillV]
                go_simp
                exact hK
              go_simp
            refine wpSched_nil ?_
            try simp only [List.drop_succ_cons, List.drop_zero, List.drop_nil]
            first
            | (have HSN : Hid (mtL bt xs bu ys (j + 1) = mtL bt xs bu ys j) := Lib.hid (by rw [HSU.out]; simp)
               have Z := Lib.hid (HS.out.below hI HW.out)
               clear hI k00 k01 k10 k11 g0 hbe
               go_wp2
               go_roundw
               case rel => exact ⟨j + 1, by omega, by go_num, _, by rw [HSN.out]; exact Z.out⟩
               case measure => simp [intOf]; omega)
            | (have HSN : Hid (mtL bt xs bu ys (j + 1) = mtL bt xs bu ys j ++ [(j : Int)]) := Lib.hid (by rw [HSU.out]; simp)
               have hz := HS.out.below hI HW.out
               have kk : w8.cell? ⟨w2.heap.size + 1, 1, none⟩ = some (.slice Ao (mtL bt xs bu ys j).length co) := hz.blk.cell 1
               have HZ := Lib.hid hz
               have hlz := HLe.out
               have hbz : w2.heap.size ≤ w8.heap.size := Nat.le_trans HW.out hI.size
               clear hI k00 k01 k10 k11 g0 hbe hz
               go_wp2_with (at_builtin; refine stopHere ?_)
               refine goHere ?_
               refine ap_one (K := cI) _ ty_int64 rfl _ _ rfl (B := w2.heap.size) (xs := mtL bt xs bu ys j) rfl HZ.out.o (j : Int) rfl rfl (by omega) hbz ?_
               intro v1 w9 ho1 hg1 hb1 hat1
               obtain ⟨A9, c9, hv9⟩ := ho1.opn; rw [List.length_append, List.length_singleton] at hv9; subst hv9
               obtain ⟨hk9, hm9⟩ := HZ.out.push ho1 hg1 hb1 hat1
               have kc9 := hk9.cell
               have kf9 := hk9.frozen
               have kl9 := hk9.lt
               have Z := Lib.hid hm9
               clear ho1 hg1 hb1 hat1 hk9 hm9 kk
               go_wp2
               go_roundw
               case rel => exact ⟨j + 1, by omega, by go_num, _, by rw [HSN.out]; exact Z.out⟩
               case measure => simp [intOf]; omega)
          · skip
            repeat
              apply wpSched_q rfl rfl
              case h =>
                intro w' hI K hK
                have k10' := (hI.cell (p := ⟨w.heap.size + 1, 0, none⟩) l1).trans k10
                have k11' := (hI.cell (p := ⟨w.heap.size + 1, 1, none⟩) l1).trans k11
                simp only [quietV, stillV]
                go_simp
                exact hK
              go_simp
            refine wpSched_r rfl rfl ?_ hI
            intro K hK _
            go_simp
            refine (HC2.out _ hI).mono ?_
            rintro e w8 ⟨rfl, hb⟩
            replace hI := hI.trans (hb.mono hI.size)
            refine hK _ _ hI ?_
            clear hK K hb
            cases z2
            all_goals
              repeat
                apply wpSched_q rfl rfl
                case h =>
                  intro w' hI K hK
                  simp only [quietV, stillV]
                  go_simp
                  exact hK
                go_simp
              refine wpSched_nil ?_
              try simp only [List.drop_succ_cons, List.drop_zero, List.drop_nil]
              first
              | (have HSN : Hid (mtL bt xs bu ys (j + 1) = mtL bt xs bu ys j) := Lib.hid (by rw [HSU.out]; simp)
                 have Z := Lib.hid (HS.out.below hI HW.out)
                 clear hI k00 k01 k10 k11 g0 hbe
                 go_wp2
                 go_roundw
                 case rel => exact ⟨j + 1, by omega, by go_num, _, by rw [HSN.out]; exact Z.out⟩
                 case measure => simp [intOf]; omega)
              | (have HSN : Hid (mtL bt xs bu ys (j + 1) = mtL bt xs bu ys j ++ [(j : Int)]) := Lib.hid (by rw [HSU.out]; simp)
                 have hz := HS.out.below hI HW.out
                 have kk : w8.cell? ⟨w2.heap.size + 1, 1, none⟩ = some (.slice Ao (mtL bt xs bu ys j).length co) := hz.blk.cell 1
                 have HZ := Lib.hid hz
                 have hlz := HLe.out
                 have hbz : w2.heap.size ≤ w8.heap.size := Nat.le_trans HW.out hI.size
                 clear hI k00 k01 k10 k11 g0 hbe hz
                 go_wp2_with (at_builtin; refine stopHere ?_)
                 refine goHere ?_
                 refine ap_one (K := cI) _ ty_int64 rfl _ _ rfl (B := w2.heap.size) (xs := mtL bt xs bu ys j) rfl HZ.out.o (j : Int) rfl rfl (by omega) hbz ?_
                 intro v1 w9 ho1 hg1 hb1 hat1
                 obtain ⟨A9, c9, hv9⟩ := ho1.opn; rw [List.length_append, List.length_singleton] at hv9; subst hv9
                 obtain ⟨hk9, hm9⟩ := HZ.out.push ho1 hg1 hb1 hat1
                 have kc9 := hk9.cell
                 have kf9 := hk9.frozen
                 have kl9 := hk9.lt
                 have Z := Lib.hid hm9
                 clear ho1 hg1 hb1 hat1 hk9 hm9 kk
                 go_wp2
                 go_roundw
                 case rel => exact ⟨j + 1, by omega, by go_num, _, by rw [HSN.out]; exact Z.out⟩
                 case measure => simp [intOf]; omega)
      · obtain rfl : j = 61 := by omega
        rw [mtL_end] at HS
        have hbe := hs.be
        have hr2 := HR2.out.below hbe HR2.out.lt
        have hl4 := HR2.out.lt
        have hsz4 := HB2.out.size
        have kb := hs.blk.cell
        have kl := hs.blk.lt
        have rc := hr2.cell
        have rf := hr2.frozen
        have rl := hr2.lt
        rw [mtL_end] at kb
        have Z1 : Hid (∀ x y, Ow cI 2 w.heap.size ((wr.setCell ⟨w.heap.size + 2, 0, none⟩ x).setCell ⟨w.heap.size + 2, 1, none⟩ y) (.slice Ao (mtR bt xs bu ys).length co) (mtR bt xs bu ys)) := Lib.hid (fun x y => by
          have hh := HS.out.o
          exact ((hh.setBelow (p := ⟨w.heap.size + 2, 0, none⟩) hl4 x).setBelow (p := ⟨w.heap.size + 2, 1, none⟩) hl4 y).mono hsz4)
        try rw [mtL_end]
        clear hs hbe hr2 hj
        go_wp2
        refine bodyPost_ret (v := .tuple #[.agg #[.bool fin, .slice Ao (mtR bt xs bu ys).length co], .int .i64 0]) (by simp [results, Tryz.results7, go_sem, rc, rf, rl]) rfl ⟨_, by rw [HFI.out], ?_, ?_⟩
        · exact Z1.out _ _
        · exact (HBo.out.setCell (by show w.heap.size ≤ w.heap.size + 2; omega) _).setCell (by show w.heap.size ≤ w.heap.size + 2; omega) _
end Go.Proofs.YtjpgiamblbgkpaaGreat

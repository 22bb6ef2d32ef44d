/- Contracts of MergeAlike of the program. Written by gen24G2.py. -/
import Derived.Test.YtomojninngdbeaaGreat24B
import Derived.Test.YtomojninngdbeaaGreatQH
import Derived.Test.YtomojninngdbeaaGreatM07V
namespace Go.Proofs.YtomojninngdbeaaGreat
open Go.RowKit
set_option linter.unusedVariables false
set_option linter.unusedSimpArgs false
theorem impl_posetOf (v : Value) (xs : List Int) (w : World) (h : Sl cI w v xs) :
    Calls Tryz.prog 21 #[v] w fun e w' => e = .returned (.agg #[.int .i64 xs.length, v]) ∧ Below w.heap.size w w' := by
  obtain ⟨A0, c0, rfl⟩ := h.opn
  have HS := Lib.hid h
  clear h
  have A := Lib.hid (Below.refl w.heap.size w)
  go_enter Tryz.func21, Tryz.ntmps21
  go_upto_region 1 with fail
  have hb := below_alloc' w (.cells #[.int .i64 0, .slice none 0 0] 26)
  have HK : Hid (Blk (World.alloc w (.cells #[.int .i64 0, .slice none 0 0] 26)) w.heap.size 26 #[.int .i64 0, .slice none 0 0]) := Lib.hid (Blk.new w 26 #[.int .i64 0, .slice none 0 0])
  replace HS := Lib.hid (HS.out.below hb)
  replace A := Lib.hid (bthen A.out hb)
  clear hb
  generalize World.alloc w _ = w1 at *
  go_wp2_with fail
  refine (impl_size_int64 _ xs _ HS.out).mono ?_
  rintro e w2 ⟨rfl, rfl⟩
  have rc := HK.out.cell
  have rf := HK.out.frozen
  have rl := HK.out.lt
  clear HK HS
  go_wp2
  refine bodyPost_ret (v := .agg #[.int .i64 xs.length, .slice A0 xs.length c0]) (by simp [results, Tryz.results21, go_sem, rc, rf, rl]) rfl ⟨rfl, ?_⟩
  exact (A.out.setCell (Nat.le_refl _) _).setCell (Nat.le_refl _) _
set_option maxRecDepth 100000 in
theorem impl_MergeAlike_bad (n : Int) (v u : Value) (xs V : List Int) (w : World) (h : Sl cI w v xs) (h' : Sl cI w u V) (hl : xs.length ≤ 1073741824) (hl' : V.length ≤ 1073741824) (hv : vlOk n xs V = false) :
    Calls Tryz.prog 6 #[.agg #[.int .i64 n, v], u] w fun e w' => e = .returned (.tuple #[.agg #[.int .i64 0, .slice none 0 0], .slice none 0 0, .slice none 0 0, .int .i64 1]) ∧ Below w.heap.size w w' := by
  obtain ⟨A0, c0, rfl⟩ := h.opn
  obtain ⟨A1, c1, rfl⟩ := h'.opn
  have A := Lib.hid (Below.refl w.heap.size w)
  have HX := Lib.hid h
  have HV := Lib.hid h'
  have HP := Lib.hid (fun W (hW : Sl cI W (.slice A0 xs.length c0) xs) (hV : Sl cI W (.slice A1 V.length c1) V) => hv ▸ impl_isValuation n _ _ xs V W hW hV hl hl')
  clear h h' hl hl' hv
  go_enter Tryz.func6, Tryz.ntmps6
  go_upto_region 1 with fail
  have hb := bthen (below_alloc' w (.cells #[.int .i64 n, .slice A0 xs.length c0] 26)) (below_alloc' (World.alloc w (.cells #[.int .i64 n, .slice A0 xs.length c0] 26)) (.cells #[.int .i64 0, .slice none 0 0] 26))
  have T1 := Lib.hid (Bk.new1 w #[.int .i64 n, .slice A0 xs.length c0] 26 (.cells #[.int .i64 0, .slice none 0 0] 26))
  have HK : Hid (Blk (World.alloc (World.alloc w (.cells #[.int .i64 n, .slice A0 xs.length c0] 26)) (.cells #[.int .i64 0, .slice none 0 0] 26)) (w.heap.size + 1) 26 #[.int .i64 0, .slice none 0 0]) := Lib.hid (Blk.new' _ 26 #[.int .i64 0, .slice none 0 0] (by simp))
  replace HX := Lib.hid (HX.out.below hb)
  replace HV := Lib.hid (HV.out.below hb)
  replace A := Lib.hid (bthen A.out hb)
  clear hb
  generalize World.alloc (World.alloc w _) _ = w1 at *
  have T1s := T1.out.1
  have T1c := T1.out.2
  go_wp2_with fail
  clear T1s T1c
  refine (HP.out _ HX.out HV.out).mono ?_
  rintro e w2 ⟨rfl, hb⟩
  replace HX := Lib.hid (HX.out.below hb)
  replace HV := Lib.hid (HV.out.below hb)
  replace T1 := Lib.hid (T1.out.below hb)
  replace HK := Lib.hid (HK.out.below hb HK.out.lt)
  replace A := Lib.hid (bthen A.out hb)
  clear hb
  have rc := HK.out.cell
  have rf := HK.out.frozen
  have rl := HK.out.lt
  go_wp2
  refine bodyPost_ret (v := .tuple #[.agg #[.int .i64 0, .slice none 0 0], .slice none 0 0, .slice none 0 0, .int .i64 1]) (by simp [results, Tryz.results6, go_sem, rc, rf, rl]) rfl ⟨rfl, ?_⟩
  exact (A.out.setCell (Nat.le_succ _) _).setCell (Nat.le_succ _) _
set_option maxRecDepth 100000 in
theorem impl_MergeAlike_big (n : Int) (v u : Value) (xs V : List Int) (w : World) (h : Sl cI w v xs) (h' : Sl cI w u V) (hl : xs.length ≤ 1073741824) (hl' : V.length ≤ 1073741824) (hv : vlOk n xs V = true) (h6 : 6 < n) :
    Calls Tryz.prog 6 #[.agg #[.int .i64 n, v], u] w fun e w' => e = .returned (.tuple #[.agg #[.int .i64 0, .slice none 0 0], .slice none 0 0, .slice none 0 0, .int .i64 3]) ∧ Below w.heap.size w w' := by
  obtain ⟨A0, c0, rfl⟩ := h.opn
  obtain ⟨A1, c1, rfl⟩ := h'.opn
  have A := Lib.hid (Below.refl w.heap.size w)
  have HX := Lib.hid h
  have HV := Lib.hid h'
  have HP := Lib.hid (fun W (hW : Sl cI W (.slice A0 xs.length c0) xs) (hV : Sl cI W (.slice A1 V.length c1) V) => hv ▸ impl_isValuation n _ _ xs V W hW hV hl hl')
  clear h h' hl hl' hv
  go_enter Tryz.func6, Tryz.ntmps6
  go_upto_region 1 with fail
  have hb := bthen (below_alloc' w (.cells #[.int .i64 n, .slice A0 xs.length c0] 26)) (below_alloc' (World.alloc w (.cells #[.int .i64 n, .slice A0 xs.length c0] 26)) (.cells #[.int .i64 0, .slice none 0 0] 26))
  have T1 := Lib.hid (Bk.new1 w #[.int .i64 n, .slice A0 xs.length c0] 26 (.cells #[.int .i64 0, .slice none 0 0] 26))
  have HK : Hid (Blk (World.alloc (World.alloc w (.cells #[.int .i64 n, .slice A0 xs.length c0] 26)) (.cells #[.int .i64 0, .slice none 0 0] 26)) (w.heap.size + 1) 26 #[.int .i64 0, .slice none 0 0]) := Lib.hid (Blk.new' _ 26 #[.int .i64 0, .slice none 0 0] (by simp))
  replace HX := Lib.hid (HX.out.below hb)
  replace HV := Lib.hid (HV.out.below hb)
  replace A := Lib.hid (bthen A.out hb)
  clear hb
  generalize World.alloc (World.alloc w _) _ = w1 at *
  have T1s := T1.out.1
  have T1c := T1.out.2
  go_wp2_with fail
  clear T1s T1c
  refine (HP.out _ HX.out HV.out).mono ?_
  rintro e w2 ⟨rfl, hb⟩
  replace HX := Lib.hid (HX.out.below hb)
  replace HV := Lib.hid (HV.out.below hb)
  replace T1 := Lib.hid (T1.out.below hb)
  replace HK := Lib.hid (HK.out.below hb HK.out.lt)
  replace A := Lib.hid (bthen A.out hb)
  clear hb
  have T1s := T1.out.1
  have T1c := T1.out.2
  have rc := HK.out.cell
  have rf := HK.out.frozen
  have rl := HK.out.lt
  go_wp2
  refine bodyPost_ret (v := .tuple #[.agg #[.int .i64 0, .slice none 0 0], .slice none 0 0, .slice none 0 0, .int .i64 3]) (by simp [results, Tryz.results6, go_sem, rc, rf, rl]) rfl ⟨rfl, ?_⟩
  exact (A.out.setCell (Nat.le_succ _) _).setCell (Nat.le_succ _) _
set_option maxHeartbeats 4000000 in
set_option maxRecDepth 100000 in
theorem impl_MergeAlike_ok (v u : Value) (ns us : List Nat) (w : World) (h : Sl cI w v (li ns)) (h' : Sl cI w u (li us)) (hm : MdN ns us) (hv : vlOk ns.length (li ns) (li us) = true) (h6 : ns.length ≤ 6) :
    Calls Tryz.prog 6 #[.agg #[.int .i64 ns.length, v], u] w fun e w' => ∃ B1 d1 B2 d2 B3 d3 H0 H, e = .returned (.tuple #[.agg #[.int .i64 (qn ns us : Nat), .slice B1 (qn ns us) d1], .slice B2 6 d2, .slice B3 ns.length d3, .int .i64 0]) ∧ w.heap.size ≤ H0 ∧ H0 ≤ H ∧ H ≤ w'.heap.size ∧
        Ob cI 2 H0 H w' (.slice B1 (qn ns us) d1) (li (QM ns us).1) ∧ Ob cI 2 H w'.heap.size w' (.slice B2 6 d2) (li (QM ns us).2) ∧ Ob cI 2 w.heap.size H0 w' (.slice B3 ns.length d3) (li (qcl ns us)) ∧ Below w.heap.size w w' := by
  obtain ⟨A0, c0, rfl⟩ := h.opn
  obtain ⟨A1, c1, rfl⟩ := h'.opn
  have HL := Lib.hid (li_length ns)
  have HU6 := Lib.hid (show (li us).length = 6 by rw [li_length, hm.l])
  have A := Lib.hid (Below.refl w.heap.size w)
  rw [HL.out] at h ⊢
  rw [HU6.out] at h' ⊢
  have HX := Lib.hid h
  have HV := Lib.hid h'
  have HP := Lib.hid (fun W (hW : Sl cI W (.slice A0 ns.length c0) (li ns)) (hV : Sl cI W (.slice A1 6 c1) (li us)) => hv ▸ impl_isValuation ns.length _ _ (li ns) (li us) W hW hV (by rw [HL.out]; omega) (by rw [HU6.out]; omega))
  have HF := Lib.hid (fun W (hW : Sl cI W (.slice A0 ns.length c0) (li ns)) => impl_Pframe ns.length _ (li ns) W hW)
  rw [HL.out] at HF
  have HQ := Lib.hid (fun W (hW : Sl cI W (.slice A0 ns.length c0) (li ns)) (hV : Sl cI W (.slice A1 6 c1) (li us)) => impl_quotientModelH ns us A0 A1 c0 c1 W ⟨hW, hV⟩ hm)
  have HE : Hid (qrl (qcl ns us) ns (qn ns us) ns.length = (QM ns us).1) := Lib.hid rfl
  have HE2 : Hid (qvl (qcl ns us) us = (QM ns us).2) := Lib.hid rfl
  rw [HE.out, HE2.out] at HQ
  have HQL := Lib.hid (show (li (QM ns us).1).length = qn ns us by rw [li_length]; exact QM_len ns us)
  have HO := Lib.hid (fun v (xs : List Int) W (hW : Sl cI W v xs) => impl_posetOf v xs W hW)
  clear h h' hv hm HE HE2
  go_enter Tryz.func6, Tryz.ntmps6
  go_upto_region 1 with fail
  have hb := bthen (below_alloc' w (.cells #[.int .i64 ns.length, .slice A0 ns.length c0] 26)) (below_alloc' (World.alloc w (.cells #[.int .i64 ns.length, .slice A0 ns.length c0] 26)) (.cells #[.int .i64 0, .slice none 0 0] 26))
  have T1 := Lib.hid (Bk.new1 w #[.int .i64 ns.length, .slice A0 ns.length c0] 26 (.cells #[.int .i64 0, .slice none 0 0] 26))
  have HK : Hid (Blk (World.alloc (World.alloc w (.cells #[.int .i64 ns.length, .slice A0 ns.length c0] 26)) (.cells #[.int .i64 0, .slice none 0 0] 26)) (w.heap.size + 1) 26 #[.int .i64 0, .slice none 0 0]) := Lib.hid (Blk.new' _ 26 #[.int .i64 0, .slice none 0 0] (by simp))
  replace HX := Lib.hid (HX.out.below hb)
  replace HV := Lib.hid (HV.out.below hb)
  replace A := Lib.hid (bthen A.out hb)
  clear hb
  generalize World.alloc (World.alloc w _) _ = w1 at *
  have T1s := T1.out.1
  have T1c := T1.out.2
  go_wp2_with fail
  clear T1s T1c
  refine (HP.out _ HX.out HV.out).mono ?_
  rintro e w2 ⟨rfl, hb⟩
  replace HX := Lib.hid (HX.out.below hb)
  replace HV := Lib.hid (HV.out.below hb)
  replace T1 := Lib.hid (T1.out.below hb)
  replace HK := Lib.hid (HK.out.below hb HK.out.lt)
  replace A := Lib.hid (bthen A.out hb)
  clear hb
  have T1s := T1.out.1
  have T1c := T1.out.2
  have hg6 : ¬ ((ns.length : Int) > 6) := by omega
  go_wp2_with fail
  clear T1s T1c
  refine (HF.out _ HX.out).mono ?_
  rintro e w3 ⟨rfl, hb⟩
  replace HX := Lib.hid (HX.out.below hb)
  replace HV := Lib.hid (HV.out.below hb)
  replace HK := Lib.hid (HK.out.below hb HK.out.lt)
  replace A := Lib.hid (bthen A.out hb)
  clear hb T1
  go_wp2_with fail
  refine (HQ.out _ HX.out HV.out).mono ?_
  rintro e w4 ⟨B1, d1, B2, d2, B3, d3, H0, H, rfl, z0, z1, z2, o1, o2, o3, hb⟩
  have z3 := HK.out.lt
  replace HK := Lib.hid (HK.out.below hb HK.out.lt)
  have zA := A.out.size
  replace A := Lib.hid (bthen A.out hb)
  have O1 := Lib.hid o1
  have O2 := Lib.hid o2
  have O3 := Lib.hid o3
  clear hb o1 o2 o3 HX HV
  go_upto_region 6 with fail
  have HB := Lib.hid (Blk.new w4 50 #[.int .i64 (qn ns us : Nat), .slice B1 (qn ns us) d1, .slice B2 6 d2])
  have hb := below_alloc' w4 (.cells #[.int .i64 (qn ns us : Nat), .slice B1 (qn ns us) d1, .slice B2 6 d2] 50)
  have HKb := HK.out.lt
  replace HK := Lib.hid (HK.out.below hb HKb)
  replace A := Lib.hid (bthen A.out hb)
  replace O1 := Lib.hid (O1.out.below hb)
  replace O2 := Lib.hid (O2.out.below hb)
  replace O3 := Lib.hid (O3.out.below hb)
  have zb := hb.size
  clear hb
  obtain ⟨g, hg⟩ : ∃ g, w4.heap.size = g := ⟨_, rfl⟩
  rw [hg] at HB O2 z2 HKb zb ⊢
  generalize World.alloc w4 _ = w5 at *
  have hd := (Below.refl w5.heap.size w5).drew
  have hI : (fun X : World => X.cell? ⟨g, 1, none⟩ = some (.slice B1 (qn ns us) d1) ∧ X.cell? ⟨g, 2, none⟩ = some (.slice B2 6 d2)) w5 := ⟨HB.out.cell 1, HB.out.cell 2⟩
  refine wp_region_sched (fun X : World => X.cell? ⟨g, 1, none⟩ = some (.slice B1 (qn ns us) d1) ∧ X.cell? ⟨g, 2, none⟩ = some (.slice B2 6 d2)) 9 [0, 1, 2, 4, 5, 6] [0, 1, 2, 4, 5, 6, 3, 7, 8] (by kernel_rfl) (by kernel_rfl) hI ?_
  repeat
    apply wpSched_q rfl rfl
    case h =>
      intro w' hI K hK
      have cc1 : w'.cell? ⟨g, 1, none⟩ = some (.slice B1 (qn ns us) d1) := hI.1
      have cc2 : w'.cell? ⟨g, 2, none⟩ = some (.slice B2 6 d2) := hI.2
      simp only [quietV, stillV]
      go_simp
      exact hK
    go_simp
  refine wpSched_r rfl rfl ?_ hI
  intro K hK _
  go_simp
  refine (HO.out _ (li (QM ns us).1) _ (O1.out.below hd).sl).mono ?_
  rintro e w6 ⟨rfl, hb⟩
  rw [HQL.out]
  have hbb := hd.trans (hb.mono hd.size)
  clear hb hd
  have HK5 := HK.out.lt
  replace HK := Lib.hid (HK.out.below hbb HK5)
  replace A := Lib.hid (bthen A.out hbb)
  replace O1 := Lib.hid (O1.out.below hbb)
  replace O2 := Lib.hid (O2.out.below hbb)
  replace O3 := Lib.hid (O3.out.below hbb)
  replace HB := Lib.hid (HB.out.below hbb HB.out.lt)
  replace zb := Nat.le_trans zb hbb.size
  clear hI hbb HK5
  have hI : (fun X : World => X.cell? ⟨g, 1, none⟩ = some (.slice B1 (qn ns us) d1) ∧ X.cell? ⟨g, 2, none⟩ = some (.slice B2 6 d2)) w6 := ⟨HB.out.cell 1, HB.out.cell 2⟩
  refine hK _ _ hI ?_
  clear hK K
  refine wpSched_r rfl rfl ?_ hI
  intro K hK _
  go_simp
  have kr := HK.out.cell
  have fr := HK.out.frozen
  have lr := HK.out.lt
  simp [kr, fr, lr, go_sem]
  have HR := Lib.hid ((HK.out.set_ 0 (.int .i64 (qn ns us : Nat))).set_ 1 (.slice B1 (qn ns us) d1))
  have nem : g ≠ w.heap.size + 1 := by omega
  have hI2 : (fun X : World => X.cell? ⟨g, 1, none⟩ = some (.slice B1 (qn ns us) d1) ∧ X.cell? ⟨g, 2, none⟩ = some (.slice B2 6 d2)) (World.setCell (World.setCell w6 ⟨w.heap.size + 1, 0, none⟩ (.int .i64 (qn ns us : Nat))) ⟨w.heap.size + 1, 1, none⟩ (.slice B1 (qn ns us) d1)) := ⟨((HB.out.far nem _).far nem _).cell 1, ((HB.out.far nem _).far nem _).cell 2⟩
  refine hK _ _ hI2 ?_
  clear hK K kr fr lr hI
  refine wpSched_r rfl rfl ?_ hI2
  intro K hK _
  go_simp
  refine hK _ _ hI2 ?_
  clear hK K
  refine wpSched_nil ?_
  try simp only [List.drop_succ_cons, List.drop_zero, List.drop_nil]
  clear hI2 nem
  have rc := HR.out.cell
  have rf := HR.out.frozen
  have rl := HR.out.lt
  have hp1 : w.heap.size + 1 < H0 ∧ w.heap.size + 1 < H := by omega
  have Z8 : Hid (∀ (W : World) (u1 u2 : Value), ((W.setCell ⟨w.heap.size + 1, 0, none⟩ u1).setCell ⟨w.heap.size + 1, 1, none⟩ u2).heap.size = W.heap.size) := Lib.hid (fun W u1 u2 => by simp [World.setCell])
  go_wp2
  refine bodyPost_ret (v := .tuple #[.agg #[.int .i64 (qn ns us : Nat), .slice B1 (qn ns us) d1], .slice B2 6 d2, .slice B3 ns.length d3, .int .i64 0]) (by simp [results, Tryz.results6, go_sem, rc, rf, rl]) rfl ⟨_, _, _, _, _, _, H0, H, rfl, by omega, z1, ?_, ⟨?_, ?_⟩, ⟨?_, ?_⟩, ⟨?_, ?_⟩, ?_⟩
  · rw [Z8.out]; omega
  · exact (O1.out.1.setBelow hp1.1 _).setBelow hp1.1 _
  · exact O1.out.2
  · exact (O2.out.1.setBelow hp1.2 _).setBelow hp1.2 _
  · rw [Z8.out]; exact fun k hk => Nat.lt_of_lt_of_le (O2.out.2 k hk) (by omega)
  · exact ((O3.out.1.setBelow z3 _).setBelow z3 _).mono zA
  · exact O3.out.2
  · exact (A.out.setCell (Nat.le_succ _) _).setCell (Nat.le_succ _) _
end Go.Proofs.YtomojninngdbeaaGreat

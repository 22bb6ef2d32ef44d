/- Contracts of valuations, of the reference: l17Is, IsValuation. Written by gen24A.py. -/
import Derived.Test.YtomojninngdbeaaGreat24A
namespace Go.Proofs.YtomojninngdbeaaGreat
open Go.RowKit
set_option linter.unusedVariables false
set_option linter.unusedSimpArgs false
def up17 (ns : List Nat) (V : List Int) : Bool := decide (V.length = 6) && V.all fun m => upn ns m
theorem up17_take {ns : List Nat} {V : List Int} {j : Nat} (h : j < V.length) : (V.take (j + 1)).all (fun m => upn ns m) = ((V.take j).all (fun m => upn ns m) && upn ns V[j]) := by
  rw [List.take_succ_eq_append_getElem h, List.all_append]
  simp
set_option maxHeartbeats 1000000 in
set_option maxRecDepth 100000 in
theorem spec_l17Is (ns : List Nat) (A0 : Option Addr) (c0 : Nat) (u : Value) (V : List Int) (w : World) (h : Sl cI w (.slice A0 ns.length c0) (li ns)) (h' : Sl cI w u V) (hr : RelN ns) :
    Calls Tryz.prog 49 #[.agg #[.int .i64 (ns.length : Int), .slice A0 ns.length c0], u] w fun e w' => e = .returned (.bool (up17 ns V)) ∧ Below w.heap.size w w' := by
  obtain ⟨A1, c1, rfl⟩ := h'.opn
  have h8 := hr.1
  have A := Lib.hid (Below.refl w.heap.size w)
  have HX := Lib.hid h
  have HV := Lib.hid h'
  clear h h'
  by_cases h2 : V.length = 6
  · cases h3 : msks (ns.length : Int) V
    · have E : Hid (up17 ns V = false) := Lib.hid (by
        unfold up17
        rw [decide_eq_true h2, Bool.true_and]
        unfold msks at h3
        rw [List.all_eq_false] at h3 ⊢
        obtain ⟨m, hm, hn⟩ := h3
        refine ⟨m, hm, fun hu => hn ?_⟩
        unfold upn at hu
        rw [Bool.and_eq_true, mkOk_small (by omega)] at hu
        exact hu.1)
      have HM := Lib.hid (fun W (hW : Sl cI W (.slice A1 V.length c1) V) => h3 ▸ spec_l01Masks (ns.length : Int) _ V W hW (by omega) (by omega) (by omega))
      have h6 : ((V.length : Int) == 6) = true := by rw [h2]; rfl
      have h7 : ((V.length : Int) != 6) = false := by rw [h2]; rfl
      have hvl : V.length ≤ 1073741824 := by omega
      clear h3 hr h2
      go_enter Tryz.func49, Tryz.ntmps49
      go_upto_region 1 with fail
      have hb := below_alloc' w (.cells #[.int .i64 (ns.length : Int), .slice A0 ns.length c0] 26)
      have T1 := Lib.hid (Bk.new w #[.int .i64 (ns.length : Int), .slice A0 ns.length c0] 26)
      replace HX := Lib.hid (HX.out.below hb)
      replace HV := Lib.hid (HV.out.below hb)
      replace A := Lib.hid (bthen A.out hb)
      clear hb
      generalize World.alloc w _ = w1 at *
      have T1s := T1.out.1
      have T1c := T1.out.2
      go_wp2_with fail
      clear T1s T1c
      refine (HM.out _ HV.out).mono ?_
      rintro e w2 ⟨rfl, hb⟩
      replace HX := Lib.hid (HX.out.below hb)
      replace HV := Lib.hid (HV.out.below hb)
      replace T1 := Lib.hid (T1.out.below hb)
      replace A := Lib.hid (bthen A.out hb)
      clear hb
      go_wp2
      go_ret
      exact ⟨by rw [E.out]; rfl, A.out⟩
    · have hmk : ∀ m ∈ V, mkOk ns.length m = true := fun m hm => by
        unfold msks at h3
        rw [List.all_eq_true] at h3
        rw [mkOk_small (by omega)]
        exact h3 m hm
      have E : Hid (up17 ns V = V.all fun m => upn ns m) := Lib.hid (by unfold up17; rw [decide_eq_true h2]; rfl)
      have HM := Lib.hid (fun W (hW : Sl cI W (.slice A1 V.length c1) V) => h3 ▸ spec_l01Masks (ns.length : Int) _ V W hW (by omega) (by omega) (by omega))
      have h6 : ((V.length : Int) == 6) = true := by rw [h2]; rfl
      have h7 : ((V.length : Int) != 6) = false := by rw [h2]; rfl
      have HI := Lib.hid (fun (k : Nat) W (hk : k < 256) (hW : Sl cI W (.slice A0 ns.length c0) (li ns)) => spec_l01Image _ ns k W hW hr hk)
      have HB := Lib.hid (fun (m : Int) (hm : m ∈ V) => show 0 ≤ m ∧ m.toNat < 256 from ⟨(mkOk_nat (hmk m hm)).1, Nat.lt_of_lt_of_le (mkOk_nat (hmk m hm)).2 (two_pow_256 h8)⟩)
      have HU := Lib.hid (fun (m : Int) (hm : m ∈ V) => show upn ns m = decide (img ns m.toNat = m.toNat) by unfold upn; rw [hmk m hm]; rfl)
      have HG := Lib.hid (fun k => show img ns k < 256 from Nat.lt_of_lt_of_le (imgTo_lt hr.2 k ns.length) (two_pow_256 h8))
      have hvl : V.length ≤ 1073741824 := by omega
      clear h3 hr h2 hmk
      go_enter Tryz.func49, Tryz.ntmps49
      go_upto_region 1 with fail
      have hb := below_alloc' w (.cells #[.int .i64 (ns.length : Int), .slice A0 ns.length c0] 26)
      have T1 := Lib.hid (Bk.new w #[.int .i64 (ns.length : Int), .slice A0 ns.length c0] 26)
      replace HX := Lib.hid (HX.out.below hb)
      replace HV := Lib.hid (HV.out.below hb)
      replace A := Lib.hid (bthen A.out hb)
      clear hb
      generalize World.alloc w _ = w1 at *
      have T1s := T1.out.1
      have T1c := T1.out.2
      go_wp2_with fail
      clear T1s T1c
      refine (HM.out _ HV.out).mono ?_
      rintro e w2 ⟨rfl, hb⟩
      replace HX := Lib.hid (HX.out.below hb)
      replace HV := Lib.hid (HV.out.below hb)
      replace T1 := Lib.hid (T1.out.below hb)
      replace A := Lib.hid (bthen A.out hb)
      clear hb
      go_wp2
      go_loopw [5] (fun i wr => ∃ j : Nat, j ≤ V.length ∧ i = .int .i64 j ∧ (V.take j).all (fun m => upn ns m) = true ∧ Below w2.heap.size w2 wr) (fun i _ => V.length - (intOf i).toNat)
      case atStart => exact ⟨0, Nat.zero_le _, rfl, rfl, Below.refl _ _⟩
      case round =>
        obtain ⟨j, hj, rfl, hh, hb⟩ := hrel
        have Hh := Lib.hid hh
        have HBL := Lib.hid hb
        clear hh
        by_cases hlt : j < V.length
        · obtain ⟨b, o, rfl, hbl, hcc⟩ := HV.out.atI hlt
          obtain ⟨m0, m1⟩ := HB.out _ (List.getElem_mem hlt)
          have HT := Lib.hid (up17_take (ns := ns) hlt)
          rw [Hh.out, Bool.true_and, HU.out _ (List.getElem_mem hlt)] at HT
          have EA := Lib.hid (fun (hx : upn ns V[j] = false) => show V.all (fun m => upn ns m) = false from List.all_eq_false.2 ⟨_, List.getElem_mem hlt, by rw [hx]; exact Bool.false_ne_true⟩)
          rw [HU.out _ (List.getElem_mem hlt)] at EA
          obtain ⟨k, hk⟩ : ∃ k : Nat, V[j] = k := ⟨V[j].toNat, by omega⟩
          rw [hk] at hcc HT EA m1
          rw [Int.toNat_natCast] at HT EA m1
          clear hk m0
          have T1s : w.heap.size < w2.heap.size := T1.out.1
          have t1 := T1.out.2 1
          have hg := HG.out k
          obtain ⟨r, hre⟩ : ∃ r, img ns k = r := ⟨_, rfl⟩
          have HIk := Lib.hid (fun W => HI.out k W m1)
          rw [hre] at HIk HT EA hg
          have EQ := Lib.hid (eqI r k)
          have EQ2 := Lib.hid (neI r k)
          clear hre
          go_upto_region 6 with fail
          have hI := hb.drew
          refine wp_region_sched (Below w2.heap.size w2) 12 [0, 1, 2, 3, 4, 5, 7, 8, 9, 10, 11] [0, 1, 2, 3, 4, 5, 7, 8, 9, 10, 6, 11] (by kernel_rfl) (by kernel_rfl) hI ?_
          repeat
            apply wpSched_q rfl rfl
            case h =>
              intro w' hI K hK
              have t1' := (hI.cell (p := ⟨w.heap.size, 1, none⟩) T1s).trans t1
              have hcc' := (hI.cell (p := ⟨b, o + j, none⟩) hbl).trans hcc
              simp only [quietV, stillV]
              go_simp
              exact hK
            go_simp
          refine wpSched_r rfl rfl ?_ hI
          intro K hK _
          go_simp
          refine (HIk.out _ (HX.out.below hI)).mono ?_
          rintro e w90 ⟨rfl, rfl⟩
          refine hK _ _ hI ?_
          clear hK K
          repeat
            apply wpSched_q rfl rfl
            case h =>
              intro w' hI K hK
              have hcc' := (hI.cell (p := ⟨b, o + j, none⟩) hbl).trans hcc
              simp only [quietV, stillV]
              go_simp
              exact hK
            go_simp
          refine wpSched_nil ?_
          try simp only [List.drop_succ_cons, List.drop_zero, List.drop_nil]
          replace HBL := Lib.hid hI
          clear hI hcc t1 T1s hb
          first | rw [EQ2.out] | rw [EQ.out]
          cases hd : decide (r = k)
          · replace EA := Lib.hid (EA.out hd)
            go_wp2
            go_ret
            exact ⟨by rw [E.out, EA.out]; rfl, A.out.trans (HBL.out.mono A.out.size)⟩
          · rw [hd] at HT
            go_wp2
            exact ⟨⟨j + 1, by omega, by go_num, HT.out, HBL.out⟩, by simp [intOf]; omega⟩
        · obtain rfl : j = V.length := by omega
          rw [List.take_length] at Hh
          go_wp2
          go_ret
          exact ⟨by rw [E.out, Hh.out]; rfl, A.out.trans (HBL.out.mono A.out.size)⟩
  · have E : Hid (up17 ns V = false) := Lib.hid (by unfold up17; rw [decide_eq_false h2]; rfl)
    have h6 : ((V.length : Int) == 6) = false := beq_eq_false_iff_ne.2 (by omega)
    have h7 : ((V.length : Int) != 6) = true := bne_iff_ne.2 (by omega)
    clear h2
    go_enter Tryz.func49, Tryz.ntmps49
    go_upto_region 1 with fail
    have hb := below_alloc' w (.cells #[.int .i64 (ns.length : Int), .slice A0 ns.length c0] 26)
    have T1 := Lib.hid (Bk.new w #[.int .i64 (ns.length : Int), .slice A0 ns.length c0] 26)
    replace HX := Lib.hid (HX.out.below hb)
    replace HV := Lib.hid (HV.out.below hb)
    replace A := Lib.hid (bthen A.out hb)
    clear hb
    generalize World.alloc w _ = w1 at *
    go_wp2
    go_ret
    exact ⟨by rw [E.out]; rfl, A.out⟩
set_option maxHeartbeats 1000000 in
set_option maxRecDepth 100000 in
theorem spec_IsValuation (n : Int) (v u : Value) (xs V : List Int) (w : World) (h : Sl cI w v xs) (h' : Sl cI w u V) (hl : xs.length ≤ 1073741824) :
    Calls Tryz.prog 22 #[.agg #[.int .i64 n, v], u] w fun e w' => e = .returned (.bool (vlOk n xs V)) ∧ Below w.heap.size w w' := by
  obtain ⟨A0, c0, rfl⟩ := h.opn
  have A := Lib.hid (Below.refl w.heap.size w)
  have HX := Lib.hid h
  have HV := Lib.hid h'
  clear h h'
  have HP := Lib.hid (fun W (hW : Sl cI W (.slice A0 xs.length c0) xs) => spec_l16Is n _ xs W hW hl)
  cases h1 : psOk n xs
  · have E : Hid (vlOk n xs V = false) := Lib.hid (by unfold vlOk; rw [h1]; rfl)
    rw [h1] at HP
    clear h1
    go_enter Tryz.func22, Tryz.ntmps22
    go_upto_region 1 with fail
    have hb := below_alloc' w (.cells #[.int .i64 n, .slice A0 xs.length c0] 26)
    have T1 := Lib.hid (Bk.new w #[.int .i64 n, .slice A0 xs.length c0] 26)
    replace HX := Lib.hid (HX.out.below hb)
    replace HV := Lib.hid (HV.out.below hb)
    replace A := Lib.hid (bthen A.out hb)
    clear hb
    generalize World.alloc w _ = w1 at *
    have T1s := T1.out.1
    have T1c := T1.out.2
    go_wp2_with fail
    clear T1s T1c
    refine (HP.out _ HX.out).mono ?_
    rintro e w2 ⟨rfl, hb⟩
    replace HX := Lib.hid (HX.out.below hb)
    replace HV := Lib.hid (HV.out.below hb)
    replace T1 := Lib.hid (T1.out.below hb)
    replace A := Lib.hid (bthen A.out hb)
    clear hb
    go_wp2
    go_ret
    exact ⟨by rw [E.out]; rfl, A.out⟩
  · have E : Hid (vlOk n xs V = up17 (nL xs) V) := Lib.hid (by unfold vlOk up17; rw [h1]; rfl)
    rw [h1] at HP
    obtain ⟨ns, rfl, rfl, hr, -⟩ := psOk_iff h1
    rw [nL_li] at E
    have EL := li_length ns
    rw [EL] at HX HP ⊢
    have H7 := Lib.hid (fun W (hW : Sl cI W (.slice A0 ns.length c0) (li ns)) (hV : Sl cI W u V) => spec_l17Is ns A0 c0 u V W hW hV hr)
    clear h1 hr
    go_enter Tryz.func22, Tryz.ntmps22
    go_upto_region 1 with fail
    have hb := below_alloc' w (.cells #[.int .i64 (ns.length : Int), .slice A0 ns.length c0] 26)
    have T1 := Lib.hid (Bk.new w #[.int .i64 (ns.length : Int), .slice A0 ns.length c0] 26)
    replace HX := Lib.hid (HX.out.below hb)
    replace HV := Lib.hid (HV.out.below hb)
    replace A := Lib.hid (bthen A.out hb)
    clear hb
    generalize World.alloc w _ = w1 at *
    have T1s := T1.out.1
    have T1c := T1.out.2
    go_wp2_with fail
    clear T1s T1c
    refine (HP.out _ HX.out).mono ?_
    rintro e w2 ⟨rfl, hb⟩
    replace HX := Lib.hid (HX.out.below hb)
    replace HV := Lib.hid (HV.out.below hb)
    replace T1 := Lib.hid (T1.out.below hb)
    replace A := Lib.hid (bthen A.out hb)
    clear hb
    have T1s := T1.out.1
    have T1c := T1.out.2
    go_wp2_with fail
    clear T1s T1c
    refine (H7.out _ HX.out HV.out).mono ?_
    rintro e w3 ⟨rfl, hb⟩
    replace HX := Lib.hid (HX.out.below hb)
    replace HV := Lib.hid (HV.out.below hb)
    replace T1 := Lib.hid (T1.out.below hb)
    replace A := Lib.hid (bthen A.out hb)
    clear hb
    go_wp2
    go_ret
    exact ⟨by rw [E.out]; rfl, A.out⟩
end Go.Proofs.YtomojninngdbeaaGreat

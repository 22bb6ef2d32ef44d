/- Contracts of chapter 14: IsFiltration, of the program and of the reference. -/
import Derived.Test.YtgdmfihnbbgcoaaGreatDoor14v
namespace Go.Proofs.YtgdmfihnbbgcoaaGreatDoor
open Go.RowKit
set_option linter.unusedVariables false
set_option linter.unusedSimpArgs false
/-- does a list of masks lie between two others? -/
def fbw (lo hi gs : List Nat) (n : Nat) : Bool := (List.range n).all fun x => decide (andnot (lo.getD x 0) (gs.getD x 0) = 0) && decide (andnot (gs.getD x 0) (hi.getD x 0) = 0)
/-- is a frame a filtration? -/
def isf (ns us : List Nat) (f : Fm) (gs : List Nat) : Bool := decide (gs.length = acn ns us f) && fbw (lst ns us f) (gre ns us f) gs (acn ns us f)
theorem en_isFiltration_1 : ∀ (args : Array Value) (w : World), (callFunc 80 args).run Tryz.prog w = .ok (.enter 80 args) w := enters Tryz.func80 (by kernel_rfl) (by kernel_rfl)
set_option maxRecDepth 100000 in
theorem impl_isFiltration_1 (lo hi gs : List Nat) (n x B1 B2 B3 : Nat) (A1 A2 A3 : Option Addr) (c1 c2 c3 : Nat) (w : World) (h1 : w.cell? ⟨B1, 1, none⟩ = some (.slice A1 n c1)) (h2 : w.cell? ⟨B2, 1, none⟩ = some (.slice A2 n c2)) (h3 : w.cell? ⟨B3, 1, none⟩ = some (.slice A3 n c3))
    (l1 : B1 < w.heap.size) (l2 : B2 < w.heap.size) (l3 : B3 < w.heap.size) (s1 : Sl cI w (.slice A1 n c1) (li lo)) (s2 : Sl cI w (.slice A2 n c2) (li gs)) (s3 : Sl cI w (.slice A3 n c3) (li hi)) (e1 : lo.length = n) (e2 : gs.length = n) (e3 : hi.length = n) (b1 : ∀ i, lo.getD i 0 < 256) (b2 : ∀ i, gs.getD i 0 < 256) (b3 : ∀ i, hi.getD i 0 < 256) (hx : x < n) :
    Calls Tryz.prog 80 #[.int .i64 x, .pointer (some ⟨B1, 0, none⟩), .pointer (some ⟨B2, 0, none⟩), .pointer (some ⟨B3, 0, none⟩)] w
      fun e w' => e = .returned (.bool (decide (andnot (lo.getD x 0) (gs.getD x 0) = 0) && decide (andnot (gs.getD x 0) (hi.getD x 0) = 0))) ∧ Below w.heap.size w w' := by
  have q1 := b1 x
  have q2 := b2 x
  have q3 := b3 x
  obtain ⟨b1', o1, rfl, hb1, d1⟩ := (show Sl cI w (.slice A1 (li lo).length c1) (li lo) by rw [li_length, e1]; exact s1).atI (k := x) (by rw [li_length]; omega)
  obtain ⟨b2', o2, rfl, hb2, d2⟩ := (show Sl cI w (.slice A2 (li gs).length c2) (li gs) by rw [li_length, e2]; exact s2).atI (k := x) (by rw [li_length]; omega)
  obtain ⟨b3', o3, rfl, hb3, d3⟩ := (show Sl cI w (.slice A3 (li hi).length c3) (li hi) by rw [li_length, e3]; exact s3).atI (k := x) (by rw [li_length]; omega)
  rw [li_get] at d1 d2 d3
  clear s1 s2 s3 e1 e2 e3 b1 b2 b3
  generalize lo.getD x 0 = m1 at *
  generalize gs.getD x 0 = m2 at *
  generalize hi.getD x 0 = m3 at *
  have HW1 := Lib.hid (fun W => impl_within m1 m2 W (by omega) (by omega))
  have HW2 := Lib.hid (fun W => impl_within m2 m3 W (by omega) (by omega))
  have i1 : (x : Int) < (n : Int) := by omega
  generalize decide (andnot m1 m2 = 0) = e1 at *
  generalize decide (andnot m2 m3 = 0) = e2 at *
  go_enter Tryz.func80, Tryz.ntmps80
  go_upto_region 1 with fail
  cases e1
  all_goals
    refine wp_region_sched (Below w.heap.size w) 25 [0, 1, 2, 3, 4, 5, 6, 7, 8, 9, 11, 12, 13, 14, 15, 16, 17, 18, 19, 20, 21, 23, 24] (List.range 25) (by kernel_rfl) (by kernel_rfl) (Below.refl _ _).drew ?_
    simp only [show List.range 25 = [0, 1, 2, 3, 4, 5, 6, 7, 8, 9, 10, 11, 12, 13, 14, 15, 16, 17, 18, 19, 20, 21, 22, 23, 24] from rfl]
    repeat
      apply wpSched_q rfl rfl
      case h =>
        intro w' hI K hK
        have h1' := (hI.cell (p := ⟨B1, 1, none⟩) l1).trans h1
        have h2' := (hI.cell (p := ⟨B2, 1, none⟩) l2).trans h2
        have h3' := (hI.cell (p := ⟨B3, 1, none⟩) l3).trans h3
        have d1' := (hI.cell (p := ⟨b1', o1 + x, none⟩) hb1).trans d1
        have d2' := (hI.cell (p := ⟨b2', o2 + x, none⟩) hb2).trans d2
        have d3' := (hI.cell (p := ⟨b3', o3 + x, none⟩) hb3).trans d3
        simp only [quietV, stillV]
        go_simp
        exact hK
      go_simp
    refine wpSched_r rfl rfl ?_ (Below.refl _ _).drew
    intro K hK _
    go_simp
    refine (HW1.out _).mono ?_
    rintro e w2 ⟨rfl, rfl⟩
    refine hK _ _ (Below.refl _ _).drew ?_
    clear hK K
    repeat
      apply wpSched_q rfl rfl
      case h =>
        intro w' hI K hK
        have h1' := (hI.cell (p := ⟨B1, 1, none⟩) l1).trans h1
        have h2' := (hI.cell (p := ⟨B2, 1, none⟩) l2).trans h2
        have h3' := (hI.cell (p := ⟨B3, 1, none⟩) l3).trans h3
        have d1' := (hI.cell (p := ⟨b1', o1 + x, none⟩) hb1).trans d1
        have d2' := (hI.cell (p := ⟨b2', o2 + x, none⟩) hb2).trans d2
        have d3' := (hI.cell (p := ⟨b3', o3 + x, none⟩) hb3).trans d3
        simp only [quietV, stillV]
        go_simp
        exact hK
      go_simp
    refine wpSched_r rfl rfl ?_ (Below.refl _ _).drew
    intro K hK hI
    go_simp
    first
      | (refine (HW2.out _).mono ?_; rintro e w2 ⟨rfl, rfl⟩)
      | skip
    refine hK _ _ hI ?_
    clear hK K
    repeat
      apply wpSched_q rfl rfl
      case h =>
        intro w' hI K hK
        have h1' := (hI.cell (p := ⟨B1, 1, none⟩) l1).trans h1
        have h2' := (hI.cell (p := ⟨B2, 1, none⟩) l2).trans h2
        have h3' := (hI.cell (p := ⟨B3, 1, none⟩) l3).trans h3
        have d1' := (hI.cell (p := ⟨b1', o1 + x, none⟩) hb1).trans d1
        have d2' := (hI.cell (p := ⟨b2', o2 + x, none⟩) hb2).trans d2
        have d3' := (hI.cell (p := ⟨b3', o3 + x, none⟩) hb3).trans d3
        simp only [quietV, stillV]
        go_simp
        exact hK
      go_simp
    refine wpSched_nil ?_
    try simp only [List.drop_succ_cons, List.drop_zero, List.drop_nil]
    go_wp2
    go_ret
    exact ⟨by cases e2 <;> rfl, (Below.refl _ _).drew⟩
set_option maxHeartbeats 1000000 in
set_option maxRecDepth 100000 in
theorem impl_isFiltration (ns us gs : List Nat) (f : Fm) (F : Nat) (A0 A1 A A4 : Option Addr) (c0 c1 cc c4 : Nat) (sf bx dm : Value) (w : World) (h : Fil w F ns us f A0 A1 A c0 c1 cc sf bx dm) (h1 : MdN ns us) (hl : (enc f).length ≤ 1000) (hg : Sl cI w (.slice A4 gs.length c4) (li gs)) (hgr : RelN gs) :
    Calls Tryz.prog 45 #[.pointer (some ⟨F, 0, none⟩), .agg #[.int .i64 gs.length, .slice A4 gs.length c4]] w fun e w' => e = .returned (.bool (isf ns us f gs)) ∧ Below w.heap.size w w' := by
  have hb0 := below_alloc' w (.cells #[.int .i64 gs.length, .slice A4 gs.length c4] 31)
  have hk0 := Blk.new w 31 #[.int .i64 gs.length, .slice A4 gs.length c4]
  have HB := Lib.hid hb0
  have HK0 := Lib.hid hk0
  have HF := Lib.hid h
  have HG := Lib.hid hg
  have HGR := Lib.hid hgr
  have H1 := Lib.hid h1
  have HL := Lib.hid hl
  clear hb0 hk0 h hg hgr h1 hl
  go_enter Tryz.func45, Tryz.ntmps45
  go_upto_region 1 with fail
  generalize World.alloc w _ = W at *
  go_wp2_with fail
  refine (impl_least ns us f F A0 A1 A c0 c1 cc sf bx dm _ (HF.out.below HB.out) H1.out.r).mono ?_
  rintro e w1 ⟨B, d, rfl, ho, hb⟩
  have O1 := Lib.hid ho
  have HB1 := Lib.hid (bthen HB.out hb)
  have HK1 := Lib.hid (HK0.out.below hb HK0.out.lt)
  clear ho hb
  go_wp2_with fail
  refine (impl_greatest ns us f F A0 A1 A c0 c1 cc sf bx dm _ (HF.out.below HB1.out) H1.out HL.out).mono ?_
  rintro e w2 ⟨B', d', rfl, ho, hb⟩
  have O2 := Lib.hid ho
  have O3 := Lib.hid (O1.out.below hb)
  have HB2 := Lib.hid (bthen HB1.out hb)
  have HK2 := Lib.hid (HK1.out.below hb HK1.out.lt)
  clear ho hb
  go_upto_region 2 with fail
  have hba := below_alloc' w2 (.cells #[.int .i64 (acn ns us f : Nat), .slice B (acn ns us f) d] 31)
  have hka := Blk.new w2 31 #[.int .i64 (acn ns us f : Nat), .slice B (acn ns us f) d]
  have hbb := below_alloc' (w2.alloc (.cells #[.int .i64 (acn ns us f : Nat), .slice B (acn ns us f) d] 31)) (.cells #[.int .i64 (acn ns us f : Nat), .slice B' (acn ns us f) d'] 31)
  have hkb : Blk _ (w2.heap.size + 1) _ _ := Blk.new' (w2.alloc (.cells #[.int .i64 (acn ns us f : Nat), .slice B (acn ns us f) d] 31)) 31 #[.int .i64 (acn ns us f : Nat), .slice B' (acn ns us f) d'] (by simp)
  have HB3 := Lib.hid (bthen HB2.out (bthen hba hbb))
  have HK3 := Lib.hid ((HK2.out.below hba HK2.out.lt).below hbb (HK2.out.below hba HK2.out.lt).lt)
  have HKa := Lib.hid (hka.below hbb hka.lt)
  have HKb := Lib.hid hkb
  have S1 := Lib.hid ((O3.out.below hba).below hbb).sl
  have S2 := Lib.hid ((O2.out.below hba).below hbb).sl
  clear hba hka hbb hkb O1 O2 O3
  generalize World.alloc (w2.alloc _) _ = w3 at *
  have k0 := HK3.out.cell
  have ka := HKa.out.cell
  have l0 := HK3.out.lt
  have la := HKa.out.lt
  have HNN := Lib.hid (Nat.le_trans (acn_le ns us f) H1.out.r.1)
  have HLO := Lib.hid (lst_lt ns us f)
  have HHI := Lib.hid (gre_lt ns us f)
  have HLL := Lib.hid (lst_length ns us f)
  have HGL := Lib.hid (gre_length ns us f)
  by_cases hE : gs.length = acn ns us f
  · have HP : Hid (isf ns us f gs = (List.range gs.length).all fun x => decide (andnot ((lst ns us f).getD x 0) (gs.getD x 0) = 0) && decide (andnot (gs.getD x 0) ((gre ns us f).getD x 0) = 0)) := Lib.hid (by unfold isf fbw; rw [hE, decide_eq_true rfl, Bool.true_and])
    generalize acn ns us f = n at *
    subst hE
    have hg8 : gs.length ≤ 8 := HNN.out
    have HGW := Lib.hid (fun W (hW : Below w.heap.size w W) => HG.out.below hW)
    have HCF : Hid (∀ w', Below w3.heap.size w3 w' → ∀ (i : Nat), i < gs.length → Calls Tryz.prog 80 (#[.int .i64 i] ++ #[.pointer (some ⟨w2.heap.size, 0, none⟩), .pointer (some ⟨w.heap.size, 0, none⟩), .pointer (some ⟨w2.heap.size + 1, 0, none⟩)]) w' fun e w'' => e = .returned (.bool (decide (andnot ((lst ns us f).getD i 0) (gs.getD i 0) = 0) && decide (andnot (gs.getD i 0) ((gre ns us f).getD i 0) = 0))) ∧ Below w'.heap.size w' w'') := Lib.hid (fun w' hw i hi => by
      have c1 := (HKa.out.below hw HKa.out.lt).cell 1
      have c2 := (HK3.out.below hw HK3.out.lt).cell 1
      have c3 := (HKb.out.below hw HKb.out.lt).cell 1
      have s2 := HGW.out w' (bthen HB3.out hw)
      have h256 : ∀ {l : List Nat}, (∀ x ∈ l, x < 2 ^ gs.length) → ∀ i, l.getD i 0 < 256 := fun h i => Nat.lt_of_lt_of_le (getD_lt h i) (two_pow_256 HNN.out)
      exact impl_isFiltration_1 (lst ns us f) (gre ns us f) gs gs.length i w2.heap.size w.heap.size (w2.heap.size + 1) B A4 B' d c4 d' w' c1 c2 c3 (HKa.out.below hw HKa.out.lt).lt (HK3.out.below hw HK3.out.lt).lt (HKb.out.below hw HKb.out.lt).lt (S1.out.below hw) s2 (S2.out.below hw) HLL.out rfl HGL.out (h256 HLO.out) (fun i => Nat.lt_of_lt_of_le (getD_lt HGR.out.2 i) (two_pow_256 hg8)) (h256 HHI.out) hi)
    have HC := Lib.hid (impl_everyWorld gs.length (.slice A4 gs.length c4) A4 gs.length c4 rfl 80 #[.pointer (some ⟨w2.heap.size, 0, none⟩), .pointer (some ⟨w.heap.size, 0, none⟩), .pointer (some ⟨w2.heap.size + 1, 0, none⟩)] (fun x => decide (andnot ((lst ns us f).getD x 0) (gs.getD x 0) = 0) && decide (andnot (gs.getD x 0) ((gre ns us f).getD x 0) = 0)) w3 hg8 en_isFiltration_1 HCF.out)
    rw [← HP.out] at HC
    clear HCF HP
    go_wp2_with fail
    refine HC.out.mono ?_
    rintro e w4 ⟨rfl, hb⟩
    have HB4 := Lib.hid (bthen HB3.out hb)
    clear hb k0 ka
    go_wp2
    go_ret
    exact ⟨rfl, HB4.out⟩
  · have HP : Hid (isf ns us f gs = false) := Lib.hid (by unfold isf; rw [decide_eq_false hE, Bool.false_and])
    have hd : ((gs.length : Int) == (acn ns us f : Int)) = false := by simp; omega
    have hd2 : ¬ ((gs.length : Int) = (acn ns us f : Int)) := by omega
    clear hE
    go_wp2
    go_ret
    exact ⟨by rw [HP.out]; rfl, HB3.out⟩
end Go.Proofs.YtgdmfihnbbgcoaaGreatDoor

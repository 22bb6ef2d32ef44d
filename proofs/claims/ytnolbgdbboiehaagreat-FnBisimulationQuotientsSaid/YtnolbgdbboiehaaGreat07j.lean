/- Contracts of chapter 7, of the reference: l07Classes, BisimulationClasses. -/
import Derived.Test.YtnolbgdbboiehaaGreatHI
import Derived.Test.YtnolbgdbboiehaaGreatSA
namespace Go.Proofs.YtnolbgdbboiehaaGreat
open Go.RowKit
set_option linter.unusedVariables false
set_option linter.unusedSimpArgs false
/-- the classes of a model's worlds -/
def bcl (ns us : List Nat) (x : Nat) : List Nat × Nat := dvd (fun y => (bnd ns us ns us 16).getD y 0) x
theorem find_first {p : Nat → Bool} {x j : Nat} (hj : j < x) (h : p j = true) (hn : ∀ i, i < j → p i = false) : (List.range x).find? p = some j := by
  rw [List.find?_eq_some_iff_append]
  refine ⟨h, List.range j, (List.range (x - (j + 1))).map (fun i => j + 1 + i), ?_, fun a ha => by rw [List.mem_range] at ha; rw [hn a ha]; rfl⟩
  rw [show x = (j + 1) + (x - (j + 1)) by omega, List.range_add, List.range_succ]
  simp
set_option maxRecDepth 100000 in
theorem spec_l07Classes (ns us : List Nat) (A0 A1 : Option Addr) (c0 c1 : Nat) (w : World) (hm : Mdl w (.slice A0 ns.length c0) (.slice A1 6 c1) ns us) (h1 : MdN ns us) :
    Calls Tryz.prog 41 #[.agg #[.int .i64 ns.length, .slice A0 ns.length c0, .slice A1 6 c1]] w
      fun e w' => ∃ A c, e = .returned (.slice A ns.length c) ∧ Ow cI 2 w.heap.size w' (.slice A ns.length c) (li (bcl ns us ns.length).1) ∧ Below w.heap.size w w' := by
  have h8 := h1.r.1
  have hb0 := below_alloc' w (.cells #[.int .i64 ns.length, .slice A0 ns.length c0, .slice A1 6 c1] 28)
  have hk0 := Blk.new w 28 #[.int .i64 ns.length, .slice A0 ns.length c0, .slice A1 6 c1]
  have HB := Lib.hid hb0
  have HK0 := Lib.hid hk0
  have HS := Lib.hid (fun W (hW : Below w.heap.size w W) => spec_l07Greatest ns us ns us A0 A1 A0 A1 c0 c1 c0 c1 W (hm.below hW) (hm.below hW) h1 h1)
  have HR := Lib.hid h1.r
  clear hb0 hk0 hm h1
  go_enter Tryz.func41, Tryz.ntmps41
  go_upto_region 1 with fail
  generalize World.alloc w _ = W at *
  have k0 := HK0.out.cell
  have l0 := HK0.out.lt
  go_wp2_with fail
  refine (HS.out _ HB.out).mono ?_
  rintro e w1 ⟨Ag, cg, rfl, hg, hb⟩
  have HLK := Lib.hid (show (li (bnd ns us ns us 16)).length = ns.length by rw [li_length, bnd_length])
  have HG := Lib.hid hg
  have HB1 := Lib.hid hb
  have hsz1 := hb.size
  clear k0 hg hb
  go_wp2
  go_loopw [4, 5, 6] (fun v ct i wr => ∃ x : Nat, x ≤ ns.length ∧ i = .int .i64 x ∧ ct = .int .i64 (bcl ns us x).2 ∧ Ow cI 2 w1.heap.size wr v (li (bcl ns us x).1) ∧ Below w1.heap.size w1 wr) (fun _ _ i _ => ns.length - (intOf i).toNat)
  case atStart => exact ⟨0, Nat.zero_le _, rfl, rfl, Ow.lit [] rfl rfl (Nat.le_refl _), (Below.refl _ _).alloc (Nat.le_refl _) _⟩
  case round =>
    obtain ⟨x, hx, rfl, rfl, ho, hb⟩ := hrel
    obtain ⟨Ao, co, rfl⟩ := ho.opn
    have hLo : (li (bcl ns us x).1).length = x := by rw [li_length]; exact dvd_length _ _
    rw [hLo] at ho ⊢
    have HO := Lib.hid ho
    have HBx := Lib.hid hb
    have hkx := (HK0.out.below HB1.out l0).below hb (Nat.lt_of_lt_of_le l0 hsz1)
    have k2 := hkx.cell
    have l2 := hkx.lt
    by_cases hxn : x < ns.length
    · clear ho hb hkx
      have hcx := dvd_count (fun y => (bnd ns us ns us 16).getD y 0) x
      have HD : Hid (bcl ns us (x + 1) = match (List.range x).find? (fun y => decide ((bnd ns us ns us 16).getD y 0 = (bnd ns us ns us 16).getD x 0)) with
        | some y => ((bcl ns us x).1 ++ [(bcl ns us x).1.getD y 0], (bcl ns us x).2)
        | none => ((bcl ns us x).1 ++ [(bcl ns us x).2], (bcl ns us x).2 + 1)) := Lib.hid rfl
      have HLT := Lib.hid (dvd_lt (fun y => (bnd ns us ns us 16).getD y 0) x)
      change (bcl ns us x).2 ≤ x at hcx
      replace HLT : Hid (∀ c ∈ (bcl ns us x).1, c < (bcl ns us x).2) := HLT
      generalize bcl ns us x = d at *
      obtain ⟨dl, dc⟩ := d
      simp only at HO hcx HD HLT hLo ⊢
      have HLd := Lib.hid hLo
      go_wp2
      clear k2 l2
      go_loop [7, 8] (fun cl y => ∃ j : Nat, j ≤ x ∧ y = .int .i64 j ∧ ((cl = .int .i64 (-1) ∧ ∀ i, i < j → ¬ (bnd ns us ns us 16).getD i 0 = (bnd ns us ns us 16).getD x 0) ∨
        (∃ i, cl = .int .i64 (dl.getD i 0 : Nat) ∧ i < x ∧ (List.range x).find? (fun y => decide ((bnd ns us ns us 16).getD y 0 = (bnd ns us ns us 16).getD x 0)) = some i))) (fun _ y => x - (intOf y).toNat)
      case atStart => exact ⟨0, Nat.zero_le _, rfl, .inl ⟨rfl, fun i hi => by omega⟩⟩
      case round =>
        obtain ⟨j, hj, rfl, hor⟩ := hrel
        have hsz := HBx.out.size
        rcases hor with ⟨rfl, hno⟩ | ⟨i, rfl, hix, hfi⟩
        · by_cases hjx : j < x
          · have hj' : j < (li (bnd ns us ns us 16)).length := by rw [HLK.out]; omega
            obtain ⟨b, o, rfl, hbl, hc0⟩ := (HG.out.below HBx.out).atI hj'
            rw [li_get] at hc0
            have hm := Nat.lt_of_lt_of_le (getD_lt (bnd_lt ns us ns us 16) j) (two_pow_256 h8)
            have ER := Lib.hid (rel_row ns us HR.out 16 hxn (show j < ns.length by omega))
            have hjo : j < (li dl).length := by rw [HLd.out]; exact hjx
            obtain ⟨b2, o2, hA2, hbl2, hd0⟩ := HO.out.sl.atI hjo
            rw [li_get] at hd0
            subst hA2
            have HNO := Lib.hid hno
            clear hno
            obtain ⟨q, hqq⟩ : ∃ q, dl.getD j 0 = q := ⟨_, rfl⟩
            have HQQ := Lib.hid hqq
            rw [hqq] at hd0
            clear hqq
            by_cases he : (bnd ns us ns us 16).getD j 0 = (bnd ns us ns us 16).getD x 0
            · have HF : Hid ((List.range x).find? (fun y => decide ((bnd ns us ns us 16).getD y 0 = (bnd ns us ns us 16).getD x 0)) = some j) := Lib.hid (find_first hjx (decide_eq_true he) (fun i hi => decide_eq_false (HNO.out i hi)))
              rw [decide_eq_true he] at ER
              obtain ⟨m, hmm⟩ : ∃ m, (bnd ns us ns us 16).getD j 0 = m := ⟨_, rfl⟩
              rw [hmm] at hc0 hm ER
              clear he HNO hmm
              have i1 : (j : Int) < (ns.length : Int) := by omega
              go_wp2_with fail
              refine (spec_l01Bit _ x _ (by omega) (by omega)).mono ?_
              rintro e w4 ⟨rfl, rfl⟩
              rw [ER.out]
              go_wp2
              go_round
              case rel => exact ⟨j + 1, by omega, by go_num, .inr ⟨j, by rw [HQQ.out], hjx, HF.out⟩⟩
              case measure => simp [intOf]; omega
            · rw [decide_eq_false he] at ER
              obtain ⟨m, hmm⟩ : ∃ m, (bnd ns us ns us 16).getD j 0 = m := ⟨_, rfl⟩
              rw [hmm] at hc0 hm ER
              have HNO' : Hid (∀ i, i < j + 1 → ¬ (bnd ns us ns us 16).getD i 0 = (bnd ns us ns us 16).getD x 0) := Lib.hid (fun i hi => (Nat.lt_or_ge i j).elim (fun h => HNO.out i h) (fun h => (show i = j by omega) ▸ he))
              clear he HNO hmm
              have i1 : (j : Int) < (ns.length : Int) := by omega
              go_wp2_with fail
              refine (spec_l01Bit _ x _ (by omega) (by omega)).mono ?_
              rintro e w4 ⟨rfl, rfl⟩
              rw [ER.out]
              go_wp2
              go_round
              case rel => exact ⟨j + 1, by omega, by go_num, .inl ⟨rfl, HNO'.out⟩⟩
              case measure => simp [intOf]; omega
          · have hjx : j = x := by omega
            subst hjx
            have HF : Hid ((List.range j).find? (fun y => decide ((bnd ns us ns us 16).getD y 0 = (bnd ns us ns us 16).getD j 0)) = none) := Lib.hid (by
              rw [List.find?_eq_none]
              intro y hy
              rw [List.mem_range] at hy
              rw [decide_eq_true_eq]
              exact hno y hy)
            rw [HF.out] at HD
            have HD2 : Hid (bcl ns us (j + 1) = (dl ++ [dc], dc + 1)) := Lib.hid HD.out
            clear hno HF HD
            go_wp2_with (at_builtin; refine stopHere ?_)
            refine goHere ?_
            refine ap_one (K := cI) _ ty_int64 rfl _ _ rfl (B := w1.heap.size) (xs := li dl) rfl HO.out (dc : Int) rfl rfl (by rw [HLd.out]; omega) hsz ?_
            intro v1 w5 ho1 hg1 hb1 hat1
            have O1 := Lib.hid ho1
            have HB5 := Lib.hid (HBx.out.trans hb1)
            clear ho1 hg1 hb1 hat1
            go_wp2
            go_roundw
            case rel => exact ⟨j + 1, by omega, by go_num, by rw [HD2.out]; go_num, by rw [HD2.out, show li (dl ++ [dc]) = li dl ++ [(dc : Int)] from li_append _ _]; exact O1.out, HB5.out⟩
            case measure => simp [intOf]; omega
        · rw [hfi] at HD
          have HD2 : Hid (bcl ns us (x + 1) = (dl ++ [dl.getD i 0], dc)) := Lib.hid HD.out
          clear hfi HD
          generalize hq : dl.getD i 0 = q at *
          have HQ := Lib.hid hq
          clear hq
          have hd1 : decide ((q : Int) < 0) = false := decide_eq_false (by omega)
          by_cases hjx : j < x
          all_goals
            go_wp2_with (at_builtin; refine stopHere ?_)
            refine goHere ?_
            refine ap_one (K := cI) _ ty_int64 rfl _ _ rfl (B := w1.heap.size) (xs := li dl) rfl HO.out (q : Int) rfl rfl (by rw [HLd.out]; omega) hsz ?_
            intro v1 w5 ho1 hg1 hb1 hat1
            have O1 := Lib.hid ho1
            have HB5 := Lib.hid (HBx.out.trans hb1)
            clear ho1 hg1 hb1 hat1
            go_wp2
            go_roundw
            case rel => exact ⟨x + 1, by omega, by go_num, by rw [HD2.out], by rw [HD2.out, show li (dl ++ [q]) = li dl ++ [(q : Int)] from li_append _ _]; exact O1.out, HB5.out⟩
            case measure => simp [intOf]; omega
    · obtain rfl : x = ns.length := by omega
      have hO2 := Lib.hid (ho.mono (Nat.le_trans HB.out.size hsz1))
      clear ho hb hkx
      go_wp2
      go_ret
      exact ⟨_, _, rfl, hO2.out, bthen HB.out (HB1.out.trans (HBx.out.mono hsz1))⟩
theorem spec_BisimulationClasses_ok (ns us : List Nat) (A0 A1 : Option Addr) (c0 c1 : Nat) (w : World) (hm : Mdl w (.slice A0 ns.length c0) (.slice A1 6 c1) ns us) (h1 : MdN ns us) (hok : mdOk ns.length (li ns) (li us) = true) :
    Calls Tryz.prog 11 #[.agg #[.int .i64 ns.length, .slice A0 ns.length c0, .slice A1 6 c1]] w
      fun e w' => ∃ u, e = .returned (.tuple #[u, .int .i64 0]) ∧ Ow cI 2 w.heap.size w' u (li (bcl ns us ns.length).1) ∧ Below w.heap.size w w' := by
  have h8 := h1.r.1
  have hb0 := below_alloc' w (.cells #[.int .i64 ns.length, .slice A0 ns.length c0, .slice A1 6 c1] 28)
  have hk0 := Blk.new w 28 #[.int .i64 ns.length, .slice A0 ns.length c0, .slice A1 6 c1]
  have HB := Lib.hid hb0
  have HK0 := Lib.hid hk0
  have E1 := Lib.hid (li_length ns)
  have E2 := Lib.hid (show (li us).length = 6 by rw [li_length, h1.l])
  have HI := Lib.hid (fun W (hW : Below w.heap.size w W) => hok ▸ spec_l06Is ns.length _ _ (li ns) (li us) W (hm.a.below hW) (hm.u.below hW) (by rw [E1.out]; omega) (by rw [E2.out]; omega))
  have HC := Lib.hid (fun W (hW : Below w.heap.size w W) => spec_l07Classes ns us A0 A1 c0 c1 W (hm.below hW) h1)
  clear hb0 hk0 hm h1 hok
  go_enter Tryz.func11, Tryz.ntmps11
  go_upto_region 1 with fail
  generalize World.alloc w _ = W at *
  have k0 := HK0.out.cell
  have l0 := HK0.out.lt
  go_wp2_with fail
  refine (HI.out _ HB.out).mono ?_
  rintro e w1 ⟨rfl, hb⟩
  have HB1 := Lib.hid (bthen HB.out hb)
  have k1 := (HK0.out.below hb l0).cell
  have l1 := (HK0.out.below hb l0).lt
  clear k0 hb
  go_wp2_with fail
  refine (HC.out _ HB1.out).mono ?_
  rintro e w2 ⟨A, c, rfl, ho, hb⟩
  have HO := Lib.hid (ho.mono HB1.out.size)
  have HB2 := Lib.hid (bthen HB1.out hb)
  clear ho hb k1
  go_wp2
  go_ret2
  exact ⟨_, rfl, HO.out, HB2.out⟩
theorem spec_BisimulationClasses_bad (n : Int) (va vu : Value) (xs vs : List Int) (w : World) (ha : Sl cI w va xs) (hu : Sl cI w vu vs) (hl : xs.length ≤ 1048576) (hl' : vs.length ≤ 1048576) (hc : mdOk n xs vs = false) :
    Calls Tryz.prog 11 #[.agg #[.int .i64 n, va, vu]] w fun e w' => e = .returned (.tuple #[.slice none 0 0, .int .i64 1]) ∧ Below w.heap.size w w' := by
  obtain ⟨A0, c0, rfl⟩ := ha.opn
  obtain ⟨A1, c1, rfl⟩ := hu.opn
  have hb0 := below_alloc' w (.cells #[.int .i64 n, .slice A0 xs.length c0, .slice A1 vs.length c1] 28)
  have hk0 := Blk.new w 28 #[.int .i64 n, .slice A0 xs.length c0, .slice A1 vs.length c1]
  have HB := Lib.hid hb0
  have HK0 := Lib.hid hk0
  have HI := Lib.hid (hc ▸ spec_l06Is n _ _ xs vs _ (ha.below hb0) (hu.below hb0) (by omega) (by omega))
  clear ha hu hb0 hk0 hc
  go_enter Tryz.func11, Tryz.ntmps11
  go_upto_region 1 with fail
  generalize World.alloc w _ = W at *
  have k0 := HK0.out.cell
  have l0 := HK0.out.lt
  go_wp2_with fail
  refine HI.out.mono ?_
  rintro e w1 ⟨rfl, hb⟩
  have HB1 := Lib.hid (bthen HB.out hb)
  clear k0 hb
  go_wp2
  go_ret2
  exact ⟨rfl, HB1.out⟩
end Go.Proofs.YtnolbgdbboiehaaGreat

/- Contracts of chapter 7, of the program: quotientRelation. -/
import Derived.Test.YtnolbgdbboiehaaGreat07q
import Derived.Deep.RegionLaw
namespace Go.Proofs.YtnolbgdbboiehaaGreat
open Go.RowKit
set_option linter.unusedVariables false
set_option linter.unusedSimpArgs false
set_option maxHeartbeats 1000000 in
theorem impl_quotientRelation (v u : Value) (ns cl : List Nat) (n : Nat) (hn : n = mx cl cl.length) (w : World) (h : Sl cI w v (li ns)) (h' : Sl cI w u (li cl)) (hr : RelN ns) (hlc : cl.length = ns.length) (hc : ∀ c ∈ cl, c < 8) :
    Calls Tryz.prog 94 #[v, u] w fun e w' => ∃ A c, e = .returned (.slice A n c) ∧ Ow cI 2 w.heap.size w' (.slice A n c) (li (qrl cl ns n ns.length)) ∧ Below w.heap.size w w' := by
  obtain ⟨A, c, rfl⟩ := h.opn
  obtain ⟨A2, c2, rfl⟩ := h'.opn
  have h8 := hr.1
  have LN := Lib.hid (li_length ns)
  have LC := Lib.hid (show (li cl).length = ns.length by rw [li_length, hlc])
  have HC8 : ∀ i, cl.getD i 0 < 256 := fun i => by
    rcases Nat.lt_or_ge i cl.length with hi | hi
    · have := hc _ (getD_mem hi); omega
    · rw [List.getD_eq_getElem?_getD, List.getElem?_eq_none hi]; decide
  have hn8 : n ≤ 8 := by rw [hn]; exact mx_le cl 8 cl.length fun i hi => hc _ (getD_mem hi)
  have HCN : Hid (∀ j : Nat, j < ns.length → cl.getD j 0 < n) := Lib.hid (fun j hj => by rw [hn]; exact mx_gt cl (by omega))
  have HCC := Lib.hid (fun W (hW : Sl cI W (.slice A2 (li cl).length c2) (li cl)) => impl_classCount _ cl W hW (by omega) HC8)
  have HM := Lib.hid (fun (j : Nat) (hj : j < ns.length) W (hW : Below w.heap.size w W) => impl_mapMask _ cl (ns.getD j 0) W (h'.below hW) (by omega) hc (by rw [hlc]; exact getD_lt hr.2 j))
  have HQ := Lib.hid (fun j => qrl_length cl ns n j)
  have HS : Hid (∀ j, qrl cl ns n (j + 1) = qst (qrl cl ns n j) (cl.getD j 0) (img (pw cl) (ns.getD j 0))) := Lib.hid (fun j => rfl)
  have HPL := Lib.hid (fun (m : Nat) => img_pw_lt hc m)
  have HQL := Lib.hid (fun j => qrl_lt ns hc (n := 8) j)
  have HQB : Hid (∀ j i, (qrl cl ns n j).getD i 0 < 256) := Lib.hid (fun j i => by
    have h1 : ∀ x ∈ qrl cl ns n j, x < 2 ^ 8 := by
      induction j with
      | zero => intro x hx; rw [qrl] at hx; rw [List.eq_of_mem_replicate hx]; decide
      | succ j ih => exact qst_lt ih _ (img_pw_lt hc _)
    exact getD_lt h1 i)
  have HA := Lib.hid h
  have HB := Lib.hid h'
  rw [LN.out] at HA ⊢
  rw [LC.out] at HB HM HCC ⊢
  rw [← hn] at HCC
  clear h h' HC8 hc hlc hr hn HQL
  go_enter Tryz.func94, Tryz.ntmps94
  go_wp2_with fail
  refine (HCC.out _ HB.out).mono ?_
  rintro e w1 ⟨rfl, rfl⟩
  go_wp2_with (at_make; refine stopHere ?_)
  refine goHere ?_
  refine mk_full (K := cI) w ty_int64 rfl _ _ rfl w.heap.size n 0 rfl rfl rfl (by omega) (Nat.le_refl _) ?_
  intro w1 ho hg hb hz
  have EZ : List.replicate n (0 : Int) = li (qrl cl ns n 0) := by rw [qrl]; unfold li; rw [List.map_replicate]; rfl
  rw [EZ] at ho
  have HO := Lib.hid ho
  have HB1 := Lib.hid hb
  clear ho hb hg hz EZ
  go_wp2
  go_loopw [13] (fun x wr => ∃ j : Nat, j ≤ ns.length ∧ x = .int .i64 j ∧ Ow cI 2 w.heap.size wr (.slice (some ⟨w.heap.size, 0, none⟩) n n) (li (qrl cl ns n j)) ∧ Below w.heap.size w wr) (fun x _ => ns.length - (intOf x).toNat)
  case atStart => exact ⟨0, Nat.zero_le _, rfl, HO.out, HB1.out⟩
  case round =>
    obtain ⟨j, hj, rfl, ho, hb⟩ := hrel
    clear HO HB1
    have HO := Lib.hid ho
    have HBx := Lib.hid hb
    by_cases hlt : j < ns.length
    · obtain ⟨b, o, rfl, hbl, hc0⟩ := (show Sl cI w (.slice A (li ns).length c) (li ns) by rw [LN.out]; exact HA.out).below hb |>.atI (k := j) (by rw [LN.out]; exact hlt)
      obtain ⟨b2, o2, rfl, hbl2, hd0⟩ := (show Sl cI w (.slice A2 (li cl).length c2) (li cl) by rw [LC.out]; exact HB.out).below hb |>.atI (k := j) (by rw [LC.out]; exact hlt)
      rw [li_get] at hc0 hd0
      have hy := HCN.out j hlt
      have hm := HM.out j hlt
      have HSj := Lib.hid (HS.out j)
      have hz := HPL.out (ns.getD j 0)
      obtain ⟨p, hp⟩ : ∃ p, img (pw cl) (ns.getD j 0) = p := ⟨_, rfl⟩
      obtain ⟨m, hmm⟩ : ∃ m, ns.getD j 0 = m := ⟨_, rfl⟩
      obtain ⟨y, hyy⟩ : ∃ y, cl.getD j 0 = y := ⟨_, rfl⟩
      rw [hp] at hm hz HSj
      rw [hmm] at hc0 hm
      rw [hyy] at hd0 hy HSj
      have HMj := Lib.hid hm
      obtain ⟨r, hrr⟩ : ∃ r, qrl cl ns n j = r := ⟨_, rfl⟩
      have hrl : (li r).length = n := by rw [li_length, ← hrr]; exact HQ.out j
      have hq := HQB.out j y
      rw [hrr] at HSj HO ho hq
      have HRL := Lib.hid hrl
      clear hp hmm hyy hrr hm ho hb hrl
      obtain ⟨k0, f0, -, l0⟩ := HO.out.at1 rfl (j := y) (by rw [HRL.out]; exact hy) rfl
      rw [li_get] at k0
      obtain ⟨z, hzz⟩ : ∃ z, r.getD y 0 = z := ⟨_, rfl⟩
      have HSz : Hid (qrl cl ns n (j + 1) = r.set y (z ||| p)) := Lib.hid (by rw [HSj.out, qst, hzz])
      have HZZ := Lib.hid hzz
      rw [hzz] at k0 hq
      clear hzz HSj
      have e2 := i64_or_nat z p (by omega) (by omega)
      have i1 : (y : Int) < (n : Int) := by omega
      have i2 : (j : Int) < (ns.length : Int) := by omega
      go_wp2
      go_region_law (go_simp; go_at_call 95; refine (HMj.out _ (below_drewN HBx.out 1)).mono ?_; rintro e w3 ⟨rfl, hb⟩; have hO3 := (HO.out.below (below_drewN (Below.refl _ _) 1)).below hb; have hb3 := (below_drewN HBx.out 1).trans (hb.mono (below_drewN HBx.out 1).size); have k3 := (hb.cell (p := ⟨w.heap.size, y, none⟩) l0).trans k0; have f3 := (hb.frozen (p := ⟨w.heap.size, y, none⟩) l0).trans f0; have d3 := (hb.cell (p := ⟨b2, o2 + j, none⟩) hbl2).trans hd0; have l3 := Nat.lt_of_lt_of_le l0 hb.size)
      all_goals
        have hset := Lib.hid (hO3.set1 (j := y) (x := ((z ||| p : Nat) : Int)) (u := .int .i64 (z ||| p : Nat)) rfl rfl (by rw [HRL.out]; exact hy))
        rw [li_set, ← HSz.out] at hset
        have hbs := Lib.hid (hb3.setCell (p := ⟨w.heap.size, y, none⟩) (Nat.le_refl _) (.int .i64 (z ||| p : Nat)))
        clear hO3 hb3 hb k3 f3 d3 l3 k0 f0 l0
        go_wp2
        go_roundw
        case rel => exact ⟨j + 1, by omega, by go_num, hset.out, hbs.out⟩
        case measure => simp [intOf]; omega
    · obtain rfl : j = ns.length := by omega
      clear ho hb
      go_wp2
      go_ret
      exact ⟨_, _, rfl, HO.out, HBx.out⟩
end Go.Proofs.YtnolbgdbboiehaaGreat

/- Contracts of chapters 1, 5 and 6: what is reached, parts of masks, of relations and of models, both sides. -/
import Derived.Test.YtnolbgdbboiehaaM05r
import Derived.Test.YtnolbgdbboiehaaFD
import Derived.Test.Ytnolbgdbboiehaa07q
import Derived.Test.YtnolbgdbboiehaaSch
namespace Go.Proofs.Ytnolbgdbboiehaa
open Go.RowKit
set_option linter.unusedVariables false
set_option linter.unusedSimpArgs false
theorem mems8 {m n : Nat} (hm : m < 2 ^ n) : (mems m).length ≤ n := mems_le hm
theorem sqTo_lt (m : Nat) (xs : List Int) (k : Nat) : sqTo m xs k < 2 ^ k := by rw [sqTo_msk]; exact msk_lt _ _
theorem impl_squeeze (m on : Nat) (w : World) (hm : m < 256) (ho : on < 256) :
    Calls Try.prog 55 #[.int .i64 m, .int .i64 on] w fun e w' => e = .returned (.int .i64 (sqz m on : Nat)) ∧ Below w.heap.size w w' := by
  have HM8 := Lib.hid (mems8 (n := 8) ho)
  have HMM := Lib.hid (fun x (hx : x ∈ mems on) => mems_mem (n := 8) ho hx)
  have HE : Hid (sqTo m (mems on) (mems on).length = sqz m on) := Lib.hid rfl
  have HST : Hid (∀ k, sqTo m (mems on) (k + 1) = sqTo m (mems on) k ||| if m.testBit ((mems on).getD k 0).toNat then 2 ^ k else 0) := Lib.hid fun k => rfl
  have HZ : Hid (sqTo m (mems on) 0 = 0) := Lib.hid rfl
  have HLT := Lib.hid (sqTo_lt m (mems on))
  go_enter Try.func55, Try.ntmps55
  go_wp2_with fail
  refine (impl_membersOf on _ (by omega)).mono ?_
  rintro e w1 ⟨vm, rfl, hv, hb⟩
  obtain ⟨A2, c2, rfl⟩ := hv.opn
  have hms := hv.sl
  have HB := Lib.hid hb
  clear hv hb
  generalize mems on = ms at *
  have h8 := HM8.out
  go_wp2
  go_loop [5, 11] (fun t i => ∃ j : Nat, j ≤ ms.length ∧ i = .int .i64 j ∧ t = .int .i64 (sqTo m ms j : Nat)) (fun _ i => ms.length - (intOf i).toNat)
  case atStart => exact ⟨0, Nat.zero_le _, rfl, by rw [HZ.out]; rfl⟩
  case round =>
    obtain ⟨j, hj, rfl, rfl⟩ := hrel
    by_cases hlt : j < ms.length
    · obtain ⟨b, o, rfl, hbl, hc0⟩ := hms.atI hlt
      obtain ⟨x, hxx, hxn⟩ := HMM.out ms[j] (List.getElem_mem hlt)
      have HS : Hid (sqTo m ms (j + 1) = sqTo m ms j ||| if m.testBit x then 2 ^ j else 0) := Lib.hid (by rw [HST.out, List.getD_eq_getElem?_getD, List.getElem?_eq_getElem hlt, Option.getD_some, hxx, Int.toNat_natCast])
      rw [hxx] at hc0
      have hq : sqTo m ms j < 256 := Nat.lt_of_lt_of_le (HLT.out j) (show 2 ^ j ≤ 2 ^ 8 from Nat.pow_le_pow_right (by omega) (by omega))
      clear hxx
      generalize sqTo m ms j = q at *
      go_wp2_with fail
      refine (impl_has m x _ (by omega) (by omega)).mono ?_
      rintro e w2 ⟨rfl, rfl⟩
      cases ht : m.testBit x
      · rw [ht] at HS
        clear ht
        go_wp2
        go_round
        case rel => exact ⟨j + 1, by omega, by go_num, by rw [HS.out]; simp⟩
        case measure => simp [intOf]; omega
      · rw [ht] at HS
        clear ht
        have e1 := wrap_two_pow (n := j) (by omega)
        have e2 := i64_or_nat q (2 ^ j) (by omega) (two_pow_lt (by omega))
        rw [← cast_two_pow] at e2
        go_wp2
        go_round
        case rel => exact ⟨j + 1, by omega, by go_num, by rw [HS.out]; simp⟩
        case measure => simp [intOf]; omega
    · have HE2 : Hid (sqTo m ms j = sqz m on) := Lib.hid (by rw [← HE.out]; congr 1; omega)
      go_wp2
      go_ret
      exact ⟨by rw [HE2.out]; rfl, HB.out⟩
theorem ptr_take (ns : List Nat) (on j : Nat) (h : j < (mems on).length) : (ptr ns on).take (j + 1) = (ptr ns on).take j ++ [sqz (ns.getD ((mems on)[j]).toNat 0) on] := by
  unfold ptr
  rw [List.take_succ_eq_append_getElem (by simpa using h), List.getElem_map]
set_option maxRecDepth 100000 in
theorem impl_partOn (v : Value) (ns : List Nat) (on : Nat) (w : World) (h : Sl cI w v (li ns)) (hr : RelN ns) (ho : on < 2 ^ ns.length) :
    Calls Try.prog 54 #[v, .int .i64 on] w fun e w' => ∃ u, e = .returned u ∧ Ow cI 2 w.heap.size w' u (li (ptr ns on)) ∧ Below w.heap.size w w' := by
  have h8 := hr.1
  have EL := Lib.hid (li_length ns)
  obtain ⟨A, c, rfl⟩ := h.opn
  rw [EL.out] at h ⊢
  have ho256 := Nat.lt_of_lt_of_le ho (two_pow_256 h8)
  have HML := Lib.hid (mems8 ho)
  have HMM := Lib.hid (fun x (hx : x ∈ mems on) => mems_mem ho hx)
  have HX := Lib.hid (fun i => Nat.lt_of_lt_of_le (getD_lt hr.2 i) (two_pow_256 h8))
  have HT := Lib.hid (fun j hj => ptr_take ns on j hj)
  have HTA : Hid ((ptr ns on).take (mems on).length = ptr ns on) := Lib.hid (List.take_of_length_le (by rw [ptr_length]; exact Nat.le_refl _))
  have HTL : Hid (∀ j, j ≤ (mems on).length → (li ((ptr ns on).take j)).length = j) := Lib.hid (fun j hj => by rw [li_length, List.length_take, ptr_length]; omega)
  have H0 := Lib.hid h
  clear h hr ho
  generalize ptr ns on = pt at *
  go_enter Try.func54, Try.ntmps54
  go_wp2_with fail
  refine (impl_membersOf on _ (by omega)).mono ?_
  rintro e w1 ⟨vm, rfl, hv, hb⟩
  obtain ⟨A2, c2, rfl⟩ := hv.opn
  have HMs := Lib.hid hv.sl
  have HB := Lib.hid hb
  clear hv hb
  generalize mems on = ms at *
  have hm8 := HML.out
  go_wp2
  go_loopw [5, 11] (fun ov i wr => ∃ j : Nat, j ≤ ms.length ∧ i = .int .i64 j ∧ Ow cI 2 w1.heap.size wr ov (li (pt.take j)) ∧ Below w1.heap.size w1 wr) (fun _ i _ => ms.length - (intOf i).toNat)
  case atStart => exact ⟨0, Nat.zero_le _, rfl, Ow.nil _ _, Below.refl _ _⟩
  case round =>
    obtain ⟨j, hj, rfl, hov, hb2⟩ := hrel
    have hb : Below w.heap.size w wr := HB.out.trans (hb2.mono HB.out.size)
    have HBr := Lib.hid hb
    have HBr2 := Lib.hid hb2
    obtain ⟨Av, cv, rfl⟩ := hov.opn
    rw [HTL.out j hj] at hov ⊢
    have HOV := Lib.hid hov
    clear hov
    by_cases hlt : j < ms.length
    · obtain ⟨x, hxx, hxn⟩ := HMM.out ms[j] (List.getElem_mem hlt)
      obtain ⟨b, o, rfl, hbl, hc0⟩ := (HMs.out.below hb2).atI hlt
      obtain ⟨b2, o2, rfl, hbl2, hd0⟩ := (show Sl cI wr (.slice A (li ns).length c) (li ns) by rw [EL.out]; exact H0.out.below hb).atI (k := x) (by rw [EL.out]; exact hxn)
      have HS := Lib.hid (HT.out j hlt)
      rw [hxx] at hc0
      rw [hxx, Int.toNat_natCast] at HS
      rw [li_get] at hd0
      have hx256 := HX.out x
      have HL := Lib.hid (HTL.out j (by omega))
      have hxn2 : (x : Int) < (ns.length : Int) := by omega
      obtain ⟨m, hmm⟩ : ∃ m, ns.getD x 0 = m := ⟨_, rfl⟩
      rw [hmm] at hd0 hx256 HS
      clear hxx hmm hb hb2
      go_wp2_with fail
      refine (impl_squeeze m on _ hx256 ho256).mono ?_
      rintro e w2 ⟨rfl, hb⟩
      have HB2 := Lib.hid (bthen HBr.out hb)
      have HB3 := Lib.hid (bthen HBr2.out hb)
      have HOV2 := Lib.hid (HOV.out.below hb)
      clear hb hc0 hd0
      obtain ⟨xs, hxs⟩ : ∃ xs, li (pt.take j) = xs := ⟨_, rfl⟩
      rw [hxs] at HOV2 HL
      have HXE : Hid (li (pt.take (j + 1)) = xs ++ [((sqz m on : Nat) : Int)]) := Lib.hid (by rw [HS.out]; unfold li; rw [List.map_append, ← hxs]; rfl)
      clear hxs
      go_wp2_with (at_builtin; refine stopHere ?_)
      refine goHere ?_
      refine ap_one (K := cI) _ ty_int64 rfl _ _ rfl (B := w1.heap.size) (xs := xs) rfl HOV2.out ((sqz m on : Nat) : Int) rfl rfl (by have := HL.out; omega) HB3.out.size ?_
      intro v1 w3 ho1 hg1 hb1 hat1
      have HO1 : Hid (Ow cI 2 w1.heap.size w3 v1 (li (pt.take (j + 1)))) := Lib.hid (by rw [HXE.out]; exact ho1)
      have HB5 : Hid (Below w1.heap.size w1 w3) := Lib.hid (HB3.out.trans hb1)
      clear ho1 hg1 hb1 hat1
      go_wp2
      go_roundw
      case rel => exact ⟨j + 1, by omega, by go_num, HO1.out, HB5.out⟩
      case measure => simp [intOf]; omega
    · obtain rfl : j = ms.length := by omega
      rw [HTA.out] at HOV
      clear hb hb2
      go_wp2
      go_ret
      exact ⟨_, rfl, HOV.out.mono HB.out.size, HBr.out⟩
/-- a relation with each element related to itself, so far -/
def rft (ns : List Nat) : Nat → List Nat
  | 0 => ns
  | j + 1 => (rft ns j).set j ((rft ns j).getD j 0 ||| 2 ^ j)
theorem rft_length (ns : List Nat) (j : Nat) : (rft ns j).length = ns.length := by
  induction j with
  | zero => rfl
  | succ j ih => rw [rft, List.length_set, ih]
theorem rft_get (ns : List Nat) (k : Nat) (x : Nat) (hk : k ≤ ns.length) : (rft ns k).getD x 0 = if x < k then ns.getD x 0 ||| 2 ^ x else ns.getD x 0 := by
  induction k with
  | zero => rw [if_neg (by omega)]; rfl
  | succ k ih =>
    have ih := ih (by omega)
    rw [rft, getD_set, rft_length]
    by_cases hx : k = x
    · subst hx
      rw [if_pos ⟨rfl, by omega⟩, if_pos (by omega), ih, if_neg (by omega)]
    · rw [if_neg (fun h => hx h.1), ih]
      by_cases h2 : x < k
      · rw [if_pos h2, if_pos (by omega)]
      · rw [if_neg h2, if_neg (by omega)]
theorem rft_rch (ns : List Nat) (x : Nat) (hx : x < ns.length) : (rft (clo ns ns.length) ns.length).getD x 0 = rch ns x := by
  rw [rft_get _ _ _ (by rw [clo_length]; exact Nat.le_refl _), if_pos hx]; rfl
set_option maxRecDepth 100000 in
theorem impl_reflexive (v : Value) (ns : List Nat) (w : World) (h : Sl cI w v (li ns)) (hr : RelN ns) :
    Calls Try.prog 49 #[v] w fun e w' => ∃ u, e = .returned u ∧ Ow cI 2 w.heap.size w' u (li (rft ns ns.length)) ∧ Below w.heap.size w w' := by
  have h8 := hr.1
  have EL := Lib.hid (li_length ns)
  have HC := Lib.hid (slices_Clone_int64 v (li ns) w h (by rw [EL.out]; omega))
  have HL := Lib.hid (rft_length ns)
  have HG := Lib.hid (rft_get ns)
  have HX := Lib.hid (fun i => Nat.lt_of_lt_of_le (getD_lt hr.2 i) (two_pow_256 h8))
  have HST : Hid (∀ j, rft ns (j + 1) = (rft ns j).set j ((rft ns j).getD j 0 ||| 2 ^ j)) := Lib.hid fun j => rfl
  have HZ : Hid (rft ns 0 = ns) := Lib.hid rfl
  clear h hr
  go_enter Try.func49, Try.ntmps49
  go_wp2_with fail
  refine HC.out.mono ?_
  rintro e w1 ⟨u, rfl, ho, hb⟩
  by_cases h0 : ns.length = 0
  · have hn : ns = [] := List.length_eq_zero_iff.1 h0
    subst hn
    obtain ⟨A, c, rfl⟩ := ho.opn
    have HO := Lib.hid ho
    clear ho
    rw [show (li []).length = 0 from rfl]
    go_wp2
    go_loopw [9] (fun i wr => i = .int .i64 (0 : Nat) ∧ wr = w1) (fun _ _ => 0)
    case atStart => exact ⟨rfl, rfl⟩
    case round =>
      obtain ⟨rfl, rfl⟩ := hrel
      go_wp2
      go_ret
      exact ⟨_, rfl, HO.out, hb⟩
  · obtain ⟨g, c, rfl, hB, hgw, -, -⟩ := ho.form (by rw [EL.out]; omega)
    rw [EL.out] at ho ⊢
    have HO := Lib.hid ho
    have HB := Lib.hid hb
    have HGB := Lib.hid hB
    clear ho hb hB hgw
    go_wp2
    go_loopw [9] (fun i wr => ∃ j : Nat, j ≤ ns.length ∧ i = .int .i64 j ∧ Ow cI 2 w.heap.size wr (.slice (some ⟨g, 0, none⟩) ns.length c) (li (rft ns j)) ∧ Below w.heap.size w wr) (fun i _ => ns.length - (intOf i).toNat)
    case atStart => exact ⟨0, Nat.zero_le _, rfl, by rw [HZ.out]; exact HO.out, HB.out⟩
    case round =>
      obtain ⟨j, hj, rfl, ho, hb⟩ := hrel
      have HOr := Lib.hid ho
      have HBr := Lib.hid hb
      clear HO HB
      by_cases hlt : j < ns.length
      · have hod := ho.below (Below.refl _ _).drew
        obtain ⟨c0, -, -, l0⟩ := ho.at1 (j := j) rfl (by rw [li_length, HL.out]; exact hlt) rfl
        obtain ⟨c4, f4, -, l4⟩ := hod.at1 (j := j) rfl (by rw [li_length, HL.out]; exact hlt) rfl
        rw [li_get] at c0 c4
        have hq : (rft ns j).getD j 0 < 256 := by rw [HG.out j j hj, if_neg (by omega)]; exact HX.out j
        have hset := hod.set1 (j := j) (x := (((rft ns j).getD j 0 ||| 2 ^ j : Nat) : Int)) (u := .int .i64 ((rft ns j).getD j 0 ||| 2 ^ j : Nat)) rfl rfl (by rw [li_length, HL.out]; exact hlt)
        rw [li_set, ← HST.out] at hset
        have HSet := Lib.hid hset
        have HBs := Lib.hid (hb.drew.setCell (p := ⟨g, j, none⟩) HGB.out (.int .i64 ((rft ns j).getD j 0 ||| 2 ^ j : Nat)))
        clear hset hod ho hb
        generalize (rft ns j).getD j 0 = q at *
        have e2 := i64_or_nat q (2 ^ j) (by omega) (two_pow_lt (by omega))
        have e3 := wrap_two_pow'' (n := j) (by omega)
        have e4 := wrap_two_pow (n := j) (by omega)
        rw [← cast_two_pow] at e2
        have i1 : (j : Int) < (ns.length : Int) := by omega
        go_wp2
        go_still_tail 8, (by kernel_rfl)
        change wpList _ _ _ _ _ (World.drew _)
        clear c0 l0
        generalize World.drew _ = w4 at *
        go_wp2
        go_roundw
        case rel => exact ⟨j + 1, by omega, by go_num, HSet.out, HBs.out⟩
        case measure => simp [intOf]; omega
      · obtain rfl : j = ns.length := by omega
        clear ho hb
        go_wp2
        go_ret
        exact ⟨_, rfl, HOr.out, HBr.out⟩
theorem impl_reachable (v : Value) (ns : List Nat) (w : World) (h : Sl cI w v (li ns)) (hr : RelN ns) :
    Calls Try.prog 17 #[.agg #[.int .i64 ns.length, v]] w fun e w' => ∃ u, e = .returned u ∧ Ow cI 2 w.heap.size w' u (li (rft (clo ns ns.length) ns.length)) ∧ Below w.heap.size w w' := by
  have EL := Lib.hid (li_length ns)
  obtain ⟨A, c, rfl⟩ := h.opn
  rw [EL.out] at h ⊢
  have hb0 := below_alloc' w (.cells #[.int .i64 ns.length, .slice A ns.length c] 26)
  have hk0 := Blk.new w 26 #[.int .i64 ns.length, .slice A ns.length c]
  have hb1 := hb0
  have HB := Lib.hid hb0
  have HT := Lib.hid (fun W (hW : Below w.heap.size w W) => impl_transitive _ ns W (h.below hW) hr)
  have hr2 : RelN (clo ns ns.length) := ⟨by rw [clo_length]; exact hr.1, by rw [clo_length]; exact clo_lt hr.2 _⟩
  have HR := Lib.hid (fun W v1 (hW : Sl cI W v1 (li (clo ns ns.length))) => impl_reflexive v1 (clo ns ns.length) W hW hr2)
  rw [clo_length] at HR
  have HK0 := Lib.hid hk0
  clear h hb0 hb1 hk0 hr
  go_enter Try.func17, Try.ntmps17
  go_upto_region 1 with fail
  generalize World.alloc w _ = W at *
  have k1 : W.cell? ⟨w.heap.size, 1, none⟩ = some (.slice A ns.length c) := HK0.out.cell 1
  have l0 := HK0.out.lt
  go_wp2_with fail
  refine (HT.out _ HB.out).mono ?_
  rintro e w1 ⟨u, rfl, ho, hb⟩
  have HB1 := Lib.hid (bthen HB.out hb)
  have HO := Lib.hid ho.sl
  clear ho hb k1 l0
  go_wp2_with fail
  refine (HR.out _ _ HO.out).mono ?_
  rintro e w2 ⟨u2, rfl, ho, hb⟩
  have HO2 := Lib.hid (ho.mono HB1.out.size)
  have HB2 := Lib.hid (bthen HB1.out hb)
  clear ho hb
  go_wp2
  go_ret
  exact ⟨_, rfl, HO2.out, HB2.out⟩
theorem impl_hasWorld (n x : Int) (va : Value) (A : Option Addr) (m c : Nat) (hv : va = .slice A m c) (w : World) (hn : 0 ≤ n ∧ n ≤ 8) :
    Calls Try.prog 16 #[.agg #[.int .i64 n, va], .int .i64 x] w fun e w' => e = .returned (.bool (inR x 0 (n - 1))) ∧ Below w.heap.size w w' := by
  subst hv
  have hb0 := below_alloc' w (.cells #[.int .i64 n, .slice A m c] 26)
  have hk0 := Blk.new w 26 #[.int .i64 n, .slice A m c]
  have HB := Lib.hid hb0
  have HK0 := Lib.hid hk0
  have hw1 : IntKind.i64.wrap (n - 1) = n - 1 := IntWalk.i64_in _ ⟨by omega, by omega⟩
  have hw2 : wrap64 (n - 1) = n - 1 := IntWalk.wrap64_in _ ⟨by omega, by omega⟩
  clear hb0 hk0
  go_enter Try.func16, Try.ntmps16
  go_upto_region 1 with fail
  generalize World.alloc w _ = W at *
  have k0 : W.cell? ⟨w.heap.size, 0, none⟩ = some (.int .i64 n) := HK0.out.cell 0
  have l0 := HK0.out.lt
  go_wp2_with fail
  refine (impl_inRange _ _ _ _).mono ?_
  rintro e w1 ⟨rfl, rfl⟩
  go_wp2
  go_ret
  exact ⟨rfl, HB.out⟩
theorem slices_Index_int64 (v : Value) (xs : List Int) (x : Int) (k : Nat) (w : World) (h : Sl cI w v xs) (hl : xs.length ≤ 1048576) (hk : k < xs.length) (h1 : xs[k]? = some x) (h2 : ∀ j, j < k → ¬ xs[j]? = some x) :
    Calls Try.prog 20 #[v, .int .i64 x] w fun e w' => e = .returned (.int .i64 (k : Nat)) ∧ w = w' := by
  obtain ⟨A, c, rfl⟩ := h.opn
  have H1 := Lib.hid h1
  have H2 := Lib.hid h2
  clear h1 h2
  go_enter Try.func20, Try.ntmps20
  go_wp2
  go_loop [8] (fun i => ∃ j : Nat, j ≤ k ∧ i = .int .i64 j) (fun i => xs.length - (intOf i).toNat)
  case atStart => exact ⟨0, Nat.zero_le _, rfl⟩
  case round =>
    obtain ⟨j, hj, rfl⟩ := hrel
    have hlt : j < xs.length := by omega
    obtain ⟨b, o, rfl, hbl, hc0⟩ := h.atI hlt
    by_cases he : xs[j] = x
    · have hjk : j = k := by
        rcases Nat.lt_or_ge j k with h' | h'
        · exact absurd (by rw [List.getElem?_eq_getElem hlt, he]) (H2.out j h')
        · omega
      subst hjk
      rw [he] at hc0
      go_wp2
      go_ret
      exact ⟨rfl, rfl⟩
    · have hjk : j < k := by
        rcases Nat.lt_or_ge j k with h' | h'
        · exact h'
        · obtain rfl : j = k := by omega
          have := H1.out
          rw [List.getElem?_eq_getElem hlt] at this
          exact absurd (Option.some.inj this) he
      have hne : (x == xs[j]) = false := by rw [beq_eq_false_iff_ne]; exact fun e => he e.symm
      generalize xs[j] = y at *
      clear he
      go_wp2
      go_round
      case rel => exact ⟨j + 1, by omega, by go_num⟩
      case measure => simp [intOf]; omega
end Go.Proofs.Ytnolbgdbboiehaa

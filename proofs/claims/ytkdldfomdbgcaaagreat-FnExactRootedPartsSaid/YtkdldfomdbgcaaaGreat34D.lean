/- Contracts of renumbered relations, of the program: reordered. -/
import Derived.Test.YtkdldfomdbgcaaaGreat34K
namespace Go.Proofs.YtkdldfomdbgcaaaGreat
open Go.RowKit
set_option linter.unusedVariables false
set_option linter.unusedSimpArgs false
set_option maxRecDepth 100000 in
set_option maxHeartbeats 1000000 in
theorem impl_reordered (ns o : List Nat) (v u : Value) (w : World) (h : Sl cI w v (li ns)) (h' : Sl cI w u (li o)) (hr : RelN ns) (ho : Ord ns.length o) (hl : o.length = ns.length) :
    Calls Tryz.prog 82 #[v, u] w fun e w' => ∃ A c, e = .returned (.slice A ns.length c) ∧ Ow cI 2 w.heap.size w' (.slice A ns.length c) (li (ren ns o)) ∧ Below w.heap.size w w' := by
  obtain ⟨A0, c0, rfl⟩ := h.opn
  obtain ⟨A1, c1, rfl⟩ := h'.opn
  have h8 := hr.1
  have EL := Lib.hid (li_length ns)
  have OL := Lib.hid (show (li o).length = ns.length by rw [li_length, hl])
  rw [EL.out] at h
  rw [OL.out] at h'
  rw [EL.out, OL.out]
  have HX := Lib.hid h
  have HO := Lib.hid h'
  have HE : Hid (rwo ns o ns.length = ren ns o) := Lib.hid (by rw [← rwo_all ns o ho hl, hl])
  have HN : Hid (∀ i, i < ns.length → o.getD i 0 < ns.length) := Lib.hid (fun i hi => ho.2 _ (getD_mem (by omega)))
  have HM := Lib.hid (fun i => getD_lt hr.2 i)
  have HG : Hid (∀ x, ns.getD x 0 < 256) := Lib.hid (fun x => Nat.lt_of_lt_of_le (getD_lt hr.2 x) (two_pow_256 h8))
  have HI : Hid (∀ k, inpTo o (k + 1) = (inpTo o k).set (o.getD k 0) k) := Lib.hid (fun k => rfl)
  have HIL : Hid (∀ k, (inpTo o k).length = ns.length) := Lib.hid (fun k => by rw [inpTo_length, hl])
  have HI0 : Hid (List.replicate ns.length (0 : Int) = li (inpTo o 0)) := Lib.hid (by rw [inpTo, hl]; unfold li; rw [List.map_replicate]; rfl)
  have HR0 : Hid (List.replicate ns.length (0 : Int) = li (rwo ns o 0)) := Lib.hid (by rw [rwo, hl]; unfold li; rw [List.map_replicate]; rfl)
  have HRL : Hid (∀ i, (rwo ns o i).length = ns.length) := Lib.hid (fun i => by rw [rwo_length, hl])
  have HT : Hid (inpTo o ns.length = inp o) := Lib.hid (by unfold inp; rw [hl])
  have HT8 : Hid (∀ x, (inp o).getD x 0 < 8) := Lib.hid (fun x => by
    by_cases hn : ns.length = 0
    · have : (inp o).length = 0 := by rw [inp_length, hl, hn]
      rw [List.length_eq_zero_iff.1 this]; simp
    · rcases Nat.lt_or_ge x (inp o).length with hx | hx
      · exact Nat.lt_of_lt_of_le (inp_lt ho hl _ (getD_mem hx)) h8
      · rw [List.getD_eq_getElem?_getD, List.getElem?_eq_none hx]; simp)
  have HTL : Hid ((inp o).length = ns.length) := Lib.hid (by rw [inp_length, hl])
  have HS0 : Hid (∀ i, i < ns.length → (rwo ns o i).set i 0 = rwo ns o i) := Lib.hid (fun i hi => by
    apply List.ext_getElem (by simp)
    intro x h1 h2
    rw [List.getElem_set]
    split
    · rename_i e
      subst e
      have := rwo_get ns o i (by omega) i
      rw [if_neg (by omega), List.getD_eq_getElem?_getD, List.getElem?_eq_getElem h2, Option.getD_some] at this
      exact this.symm
    · rfl)
  have HS1 : Hid (∀ i, i < ns.length → (rwo ns o i).set i (fldT (inp o) (mems (ns.getD (o.getD i 0) 0)) (mems (ns.getD (o.getD i 0) 0)).length) = rwo ns o (i + 1)) := Lib.hid (fun i hi => by
    rw [fldT_img (by rw [inp_length, hl]; exact h8) (by rw [inp_length, hl]; exact getD_lt hr.2 _)]; rfl)
  clear h h' hr ho
  generalize rwo ns o = R at *
  generalize inp o = T at *
  generalize ren ns o = RN at *
  go_enter Tryz.func82, Tryz.ntmps82
  go_wp2_with (at_make; refine stopHere ?_)
  refine goHere ?_
  refine mk_full (K := cI) w ty_int64 rfl _ _ rfl w.heap.size ns.length 0 rfl rfl rfl (by omega) (Nat.le_refl _) ?_
  intro w1 ho1 hg1 hb1 hz1
  rw [HI0.out] at ho1
  have O1 := Lib.hid ho1
  have B1 := Lib.hid hb1
  clear ho1 hb1 hg1 hz1
  go_wp2
  go_loopw [18] (fun k wr => ∃ j : Nat, j ≤ ns.length ∧ k = .int .i64 j ∧ Ow cI 2 w.heap.size wr (.slice (some ⟨w.heap.size, 0, none⟩) ns.length ns.length) (li (inpTo o j)) ∧ Below w.heap.size w wr) (fun k _ => ns.length - (intOf k).toNat)
  case atStart => exact ⟨0, Nat.zero_le _, rfl, O1.out, B1.out⟩
  case round =>
    obtain ⟨j, hj, rfl, ho, hb⟩ := hrel
    clear O1 B1
    by_cases hlt : j < ns.length
    · obtain ⟨b, q, rfl, hbl, hcx⟩ := (HO.out.below hb).atI (k := j) (by rw [OL.out]; exact hlt)
      rw [li_get] at hcx
      have hx := HN.out j hlt
      have HIj := Lib.hid (HI.out j)
      have hxl : o.getD j 0 < (li (inpTo o j)).length := by rw [li_length, HIL.out]; exact hx
      obtain ⟨cj, fj, -, lj⟩ := ho.at1 (j := o.getD j 0) rfl hxl rfl
      have hset := ho.set1 (j := o.getD j 0) (x := ((j : Nat) : Int)) (u := .int .i64 (j : Nat)) rfl rfl hxl
      rw [li_set, ← HIj.out] at hset
      have HSet := Lib.hid hset
      have HBs := Lib.hid (hb.setCell (p := ⟨w.heap.size, o.getD j 0, none⟩) (Nat.le_refl _) (.int .i64 (j : Nat)))
      clear hset ho hb HIj
      generalize o.getD j 0 = x at *
      have i1 : (j : Int) < (ns.length : Int) := by omega
      go_wp2
      go_roundw
      case rel => exact ⟨j + 1, by omega, by go_num, HSet.out, HBs.out⟩
      case measure => simp [intOf]; omega
    · obtain rfl : j = ns.length := by omega
      rw [HT.out] at ho
      have OT := Lib.hid ho
      have BT := Lib.hid hb
      clear ho hb hlt
      obtain ⟨w2, hw2⟩ : ∃ W, W = wr := ⟨_, rfl⟩
      subst hw2
      go_wp2_with (at_make; refine stopHere ?_)
      refine goHere ?_
      refine mk_full (K := cI) w2 ty_int64 rfl _ _ rfl w2.heap.size ns.length 0 rfl rfl rfl (by omega) (Nat.le_refl _) ?_
      intro w3 ho3 hg3 hb3 hz3
      rw [HR0.out] at ho3
      have O3 := Lib.hid ho3
      have hgl := (OT.out.block w.heap.size rfl).2
      have ZA : Hid (w.heap.size < w2.heap.size) := Lib.hid hgl
      replace OT := Lib.hid (OT.out.below hb3)
      replace BT := Lib.hid (bthen BT.out hb3)
      clear ho3 hb3 hg3 hz3 hgl
      go_wp2
      go_loopw [33] (fun k wr => ∃ i : Nat, i ≤ ns.length ∧ k = .int .i64 i ∧ Ow cI 2 w.heap.size wr (.slice (some ⟨w.heap.size, 0, none⟩) ns.length ns.length) (li T) ∧ Ow cI 2 w2.heap.size wr (.slice (some ⟨w2.heap.size, 0, none⟩) ns.length ns.length) (li (R i)) ∧ Below w.heap.size w wr) (fun k _ => ns.length - (intOf k).toNat)
      case atStart => exact ⟨0, Nat.zero_le _, rfl, OT.out, O3.out, BT.out⟩
      case round =>
        obtain ⟨i, hi, rfl, ht, ho, hb⟩ := hrel
        clear OT O3 BT
        obtain ⟨w4, hw4⟩ : ∃ W, W = wr := ⟨_, rfl⟩
        subst hw4
        by_cases hlt : i < ns.length
        · obtain ⟨b, q, rfl, hbl, hcx⟩ := (HO.out.below hb).atI (k := i) (by rw [OL.out]; exact hlt)
          obtain ⟨d, p, rfl, hdl, hdx⟩ := (HX.out.below hb).atI (k := o.getD i 0) (by rw [EL.out]; exact HN.out i hlt)
          rw [li_get] at hcx hdx
          have hx := HN.out i hlt
          have hm := HG.out (o.getD i 0)
          have hmn := Lib.hid (HM.out (o.getD i 0))
          have S0 := Lib.hid (HS0.out i hlt)
          have S1 := Lib.hid (HS1.out i hlt)
          have RL := Lib.hid (HRL.out i)
          generalize ns.getD (o.getD i 0) 0 = m at *
          generalize o.getD i 0 = x at *
          have OT := Lib.hid ht
          have O3 := Lib.hid ho
          have BT := Lib.hid hb
          clear ht ho hb
          go_wp2_with fail
          refine (impl_membersOf m _ (by omega)).mono ?_
          rintro e w5 ⟨vm, rfl, hom, hb⟩
          obtain ⟨A5, c5, rfl⟩ := hom.opn
          replace OT := Lib.hid (OT.out.below hb)
          have Z4 : Hid (w2.heap.size < w4.heap.size) := Lib.hid (O3.out.block w2.heap.size rfl).2
          replace O3 := Lib.hid (O3.out.below hb)
          replace BT := Lib.hid (bthen BT.out hb)
          have OM := Lib.hid hom
          have hml := mems_length m
          clear hom hb hcx hdx
          obtain ⟨ms, hms⟩ : ∃ ms, mems m = ms := ⟨_, rfl⟩
          rw [hms] at S1 OM hml ⊢
          have HMM := Lib.hid hms
          clear hms
          have i1 : (i : Int) < (ns.length : Int) := by omega
          go_wp2
          go_loopw [44] (fun k wq => ∃ j : Nat, j ≤ ms.length ∧ k = .int .i64 j ∧ Ow cI 2 w4.heap.size wq (.slice A5 ms.length c5) ms ∧ Ow cI 2 w.heap.size wq (.slice (some ⟨w.heap.size, 0, none⟩) ns.length ns.length) (li T) ∧ Ow cI 2 w2.heap.size wq (.slice (some ⟨w2.heap.size, 0, none⟩) ns.length ns.length) (li ((R i).set i (fldT T ms j))) ∧ Below w.heap.size w wq) (fun k _ => ms.length - (intOf k).toNat)
          case atStart => exact ⟨0, Nat.zero_le _, rfl, OM.out, OT.out, by rw [show fldT T ms 0 = 0 from rfl, S0.out]; exact O3.out, BT.out⟩
          case round =>
            obtain ⟨j, hj, rfl, hs, ht, ho, hb⟩ := hrel
            clear OM OT O3 BT
            by_cases hjl : j < ms.length
            · obtain ⟨b2, o2, rfl, hbl2, hd0⟩ := hs.sl.atI hjl
              have hsD := hs.below (Below.refl _ _).drew
              obtain ⟨b3, o3, e3, hbl3, hd4⟩ := hsD.sl.atI hjl
              injection e3 with e3
              injection e3 with e3 e4
              subst e3
              subst e4
              obtain ⟨y, hyy, hyn⟩ := mems_mem (n := ns.length) hmn.out (x := ms[j]) (by rw [HMM.out]; exact List.getElem_mem hjl)
              have HF : Hid (fldT T ms (j + 1) = fldT T ms j ||| 2 ^ T.getD y 0) := Lib.hid (by rw [fldT, List.getD_eq_getElem?_getD (l := ms), List.getElem?_eq_getElem hjl, Option.getD_some, hyy, Int.toNat_natCast])
              rw [hyy] at hd0 hd4
              have hf8 : fldT T ms j < 2 ^ 8 := fldT_lt HT8.out ms j
              have hil : i < (li ((R i).set i (fldT T ms j))).length := by rw [li_length, List.length_set, RL.out]; exact hlt
              have hyl : y < (li T).length := by rw [li_length, HTL.out]; exact hyn
              obtain ⟨cj, -, -, lj⟩ := ho.at1 (j := i) rfl hil rfl
              obtain ⟨ct, -, -, lt⟩ := ht.at1 (j := y) rfl hyl rfl
              have hod := ho.below (Below.refl _ _).drew
              have htd := ht.below (Below.refl _ _).drew
              obtain ⟨cj4, fj4, -, lj4⟩ := hod.at1 (j := i) rfl hil rfl
              obtain ⟨ct4, ft4, -, lt4⟩ := htd.at1 (j := y) rfl hyl rfl
              have eq1 : ((R i).set i (fldT T ms j)).getD i 0 = fldT T ms j := by rw [List.getD_eq_getElem?_getD, List.getElem?_set_self (by rw [RL.out]; exact hlt)]; rfl
              rw [li_get, eq1] at cj cj4
              rw [li_get] at ct ct4
              have hset := hod.set1 (j := i) (x := ((fldT T ms j ||| 2 ^ T.getD y 0 : Nat) : Int)) (u := .int .i64 (fldT T ms j ||| 2 ^ T.getD y 0 : Nat)) rfl rfl hil
              rw [li_set, List.set_set] at hset
              have HSet := Lib.hid hset
              have HBs := Lib.hid ((hb.drew).setCell (p := ⟨w2.heap.size, i, none⟩) (Nat.le_of_lt ZA.out) (.int .i64 (fldT T ms j ||| 2 ^ T.getD y 0 : Nat)))
              have HSS := Lib.hid (hsD.setBelow (p := ⟨w2.heap.size, i, none⟩) Z4.out (.int .i64 (fldT T ms j ||| 2 ^ T.getD y 0 : Nat)))
              have HTT := Lib.hid (htd.far (p := ⟨w2.heap.size, i, none⟩) (by show some w.heap.size ≠ some w2.heap.size; intro e; injection e with e; have := ZA.out; omega) (.int .i64 (fldT T ms j ||| 2 ^ T.getD y 0 : Nat)))
              have ht8 := HT8.out y
              clear hset hod htd hsD ho ht hs hb eq1 hil hyl
              generalize fldT T ms j = q at *
              generalize T.getD y 0 = t at *
              have e2 := i64_or_nat q (2 ^ t) (by omega) (two_pow_lt (by omega))
              have e3 := wrap_two_pow'' (n := t) (by omega)
              have e4 := wrap_two_pow (n := t) (by omega)
              rw [← cast_two_pow] at e2
              go_wp2
              go_still_tail 11, (by kernel_rfl)
              change wpList _ _ _ _ _ (World.drew _)
              clear cj ct lt lj
              generalize World.drew _ = w6 at *
              go_wp2
              go_roundw
              case rel => exact ⟨j + 1, by omega, by go_num, HSS.out, HTT.out, by rw [HF.out]; exact HSet.out, HBs.out⟩
              case measure => simp [intOf]; omega
            · obtain rfl : j = ms.length := by omega
              have ZM := S1.out
              have OT := Lib.hid ht
              rw [ZM] at ho
              have O3 := Lib.hid ho
              have BT := Lib.hid hb
              clear ho ht hb hs ZM
              go_wp2
              go_roundw
              case rel => exact ⟨i + 1, by omega, by go_num, OT.out, O3.out, BT.out⟩
              case measure => simp [intOf]; omega
        · obtain rfl : i = ns.length := by omega
          rw [HE.out] at ho
          have O3 := Lib.hid ho
          have BT := Lib.hid hb
          clear ho ht hb
          go_wp2
          go_ret
          exact ⟨_, _, rfl, O3.out.mono (Nat.le_of_lt ZA.out), BT.out⟩
end Go.Proofs.YtkdldfomdbgcaaaGreat

/- ClassicalClasses of the reference. -/
import Derived.Test.Ytgdmfihnbbgcoaa04u
import Derived.Test.Ytgdmfihnbbgcoaa04v
namespace Go.Proofs.Ytgdmfihnbbgcoaa
open Go.RowKit
set_option linter.unusedVariables false
set_option linter.unusedSimpArgs false
theorem spec_ClassicalClasses_bad (v : Value) (xss : List (List Nd)) (w : World) (h : Sl2 cN w v xss) (hl : tot xss ≤ 1048576) (hc : pcode xss ≠ 0) :
    Calls Try.prog 38 #[v] w fun e w' => e = .returned (.tuple #[.slice none 0 0, .int .i64 (pcode xss)]) ∧ Below w.heap.size w w' := by
  have H1 := Lib.hid (spec_l04Code v xss w h (by have := (tot_len hl).1; omega) (tot_len hl).2)
  have hc' : (pcode xss != 0) = true := by simpa using hc
  generalize pcode xss = k at *
  clear h hc
  go_enter Try.func38, Try.ntmps38
  go_wp2_with fail
  refine H1.out.mono ?_
  rintro e w1 ⟨rfl, rfl⟩
  go_wp2
  go_ret2
  exact ⟨rfl, Below.refl _ _⟩
theorem ty_boolss : Ty Try.prog 121 122 (.slice none 0 0) 1 24 := Ty.mk' Try.underlying121 (by kernel_rfl) rfl (by decide)
set_option maxRecDepth 100000 in
set_option maxHeartbeats 1000000 in
theorem spec_ClassicalClasses_ok (v : Value) (O : List Fm) (w : World) (h : Sl2 cN w v (O.map enc)) (hl : tot (O.map enc) ≤ 1048576) (hI : ∀ g ∈ O, g.ok = true ∧ (enc g).length ≤ 40 ∧ g.plain = true) :
    Calls Try.prog 38 #[v] w fun e w' => ∃ u, e = .returned (.tuple #[u, .int .i64 0]) ∧ Ow cI 2 w.heap.size w' u (li (dvd (fun y => (O.map mdl).getD y 0) O.length).1) ∧ Below w.heap.size w w' := by
  obtain ⟨A, c, rfl⟩ := h.opn
  have H1 := Lib.hid (pcode_ok hI ▸ spec_l04Code _ _ w h (by have := (tot_len hl).1; omega) (tot_len hl).2)
  have hlen := (tot_len hl).1
  rw [List.length_map] at hlen
  have H2 := Lib.hid h
  have HK := Lib.hid hI
  have HLM : Hid ((O.map enc).length = O.length) := Lib.hid (List.length_map _)
  rw [HLM.out] at H1 H2 ⊢
  clear h hI hl
  have HKey : Hid (∀ j (hj : j < O.length), (O.map mdl).getD j 0 = mdl (O[j]'hj)) := Lib.hid fun j hj => by simp [List.getD_eq_getElem?_getD, hj]
  have HKl : Hid (∀ j, (O.map mdl).getD j 0 < 18446744073709551616) := Lib.hid fun i => by
    rw [List.getD_eq_getElem?_getD, List.getElem?_map]
    cases O[i]? with
    | none => simp
    | some g => exact mdl_lt g
  generalize hkey : (fun y => (O.map mdl).getD y 0) = key at *
  have HKey2 : Hid (∀ j, key j = (O.map mdl).getD j 0) := Lib.hid fun j => by rw [← hkey]
  clear hkey
  have hb0 := below_alloc' w (.cells #[] 2)
  have hb1 := below_alloc' (w.alloc (.cells #[] 2)) (.cells #[] 122)
  have hz1 : (w.alloc (.cells #[] 2)).heap.size = w.heap.size + 1 := by simp
  have hoo : Ow cI 2 w.heap.size ((w.alloc (.cells #[] 2)).alloc (.cells #[] 122)) (.slice (some ⟨w.heap.size, 0, none⟩) 0 0) [] := (Ow.lit (K := cI) [] rfl rfl (Nat.le_refl _)).below hb1
  have hot : Ow cH 122 w.heap.size ((w.alloc (.cells #[] 2)).alloc (.cells #[] 122)) (.slice (some ⟨w.heap.size + 1, 0, none⟩) 0 0) [] := Ow.lit' (K := cH) [] hz1.symm rfl rfl (by omega)
  have HT0 : Hid (TB w.heap.size ((w.alloc (.cells #[] 2)).alloc (.cells #[] 122)) (.slice (some ⟨w.heap.size, 0, none⟩) 0 0) (li (dvd key 0).1) (.slice (some ⟨w.heap.size + 1, 0, none⟩) 0 0) ((rf key 0).map tbl)) :=
    Lib.hid ⟨hoo, ⟨[], hot, rfl, fun i a => (by simp at a)⟩, fun k hk e => by
      have e1 : w.heap.size = k := by injection hk
      have e2 : w.heap.size + 1 = k := by injection e
      omega⟩
  have HB0 : Hid (Below w.heap.size w ((w.alloc (.cells #[] 2)).alloc (.cells #[] 122))) := Lib.hid (bthen hb0 hb1)
  clear hb0 hb1 hoo hot hz1
  go_enter Try.func38, Try.ntmps38
  go_wp2_with fail
  refine H1.out.mono ?_
  rintro e w1 ⟨rfl, rfl⟩
  go_wp2
  go_loopw [5, 6, 7] (fun o t i wr => ∃ j : Nat, j ≤ O.length ∧ i = .int .i64 j ∧ TB w.heap.size wr o (li (dvd key j).1) t ((rf key j).map tbl) ∧ Below w.heap.size w wr) (fun _ _ i _ => O.length - (intOf i).toNat)
  case atStart => exact ⟨0, Nat.zero_le _, rfl, HT0.out, HB0.out⟩
  case round =>
    obtain ⟨j, hj, rfl, ht, hb⟩ := hrel
    by_cases hlt : j < O.length
    · have hlt' : j < (O.map enc).length := by rw [HLM.out]; exact hlt
      obtain ⟨b, o, A2, c2, rfl, hbl, hc0, hs2⟩ := ((show Sl2 cN w (.slice A O.length c) (O.map enc) from H2.out).below hb).atM hlt'
      have he : (O.map enc)[j]'hlt' = enc (O[j]'hlt) := List.getElem_map _
      rw [he] at hc0 hs2
      have hgg := HK.out _ (List.getElem_mem hlt)
      have hkj : key j = mdl (O[j]'hlt) := by rw [HKey2.out, HKey.out j hlt]
      have HT := Lib.hid (spec_l04Table (O[j]'hlt) _ _ hs2 (by omega) hgg.1 hgg.2.2)
      rw [← tbl_mdl, ← hkj] at HT
      have HTB := Lib.hid ht
      have HB := Lib.hid hb
      have hka : key j < 18446744073709551616 := by rw [HKey2.out]; exact HKl.out j
      have HKA := Lib.hid hka
      obtain ⟨m, hm⟩ : ∃ m, (enc (O[j]'hlt)).length = m := ⟨_, rfl⟩
      rw [hm] at hc0 HT
      clear hs2 ht hb hm he hgg hkj hka
      go_wp2_with fail
      refine HT.out.mono ?_
      rintro e w2 ⟨u, rfl, hou, hbu⟩
      obtain ⟨Au, cu, rfl⟩ := hou.opn
      rw [tbl_length] at hou ⊢
      have ht2 := HTB.out.below hbu
      obtain ⟨At, ct, rfl⟩ := ht2.sl2.opn
      rw [List.length_map] at ht2 HTB ⊢
      have HOU := Lib.hid hou
      have HT2 := Lib.hid ht2
      have HB2 := Lib.hid (bthen HB.out hbu)
      have hLT := rf_len key j
      have hwz := hbu.size
      have HLO := Lib.hid HTB.out.oo.block
      have HLT2 : Hid (∀ k, (Value.slice At (rf key j).length ct).ownBlock = some k → k < wr.heap.size) := Lib.hid fun k hk => by
        obtain ⟨hs9, h91, -⟩ := HTB.out.tt
        exact (h91.block k hk).2
      clear hou ht2 hbu hc0 HTB HT
      have HScn := Lib.hid (fun k => sc_ge (rf key j) (key j) k)
      have HSs : Hid (∀ k, sc (rf key j) (key j) (k + 1) = if (rf key j).getD k 0 = key j then (k : Int) else sc (rf key j) (key j) k) := Lib.hid fun k => rfl
      have HRK : Hid (∀ k (hk : k < (rf key j).length), (rf key j)[k] < 18446744073709551616) := Lib.hid fun k hk => by
        obtain ⟨y, -, e⟩ := (rf_mem key j _).1 (List.getElem_mem hk)
        rw [← e, HKey2.out]; exact HKl.out y
      go_wp2
      go_loopw [9, 10] (fun q i wr2 => ∃ n : Nat, n ≤ (rf key j).length ∧ i = .int .i64 n ∧ q = .int .i64 (sc (rf key j) (key j) n) ∧ ∃ nq, wr2 = w2.drewN nq) (fun _ i _ => (rf key j).length - (intOf i).toNat)
      case atStart => exact ⟨0, Nat.zero_le _, rfl, rfl, 0, rfl⟩
      case round =>
        obtain ⟨n, hn, rfl, rfl, nq, rfl⟩ := hrel
        by_cases hltn : n < (rf key j).length
        · have hs3 : Sl2 cB (w2.drewN nq) (.slice At (rf key j).length ct) ((rf key j).map tbl) := (HT2.out.below (below_drewN (Below.refl _ _) nq)).sl2
          obtain ⟨b3, o3, A3, n3, c3, rfl, hbl3, hc3, hs4⟩ := hs3.at_ (k := n) (by rw [List.length_map]; exact hltn)
          rw [List.getElem_map] at hs4
          obtain ⟨A4, c4, e4⟩ := hs4.opn
          rw [tbl_length] at e4
          obtain ⟨rfl, rfl, rfl⟩ : A3 = A4 ∧ n3 = 64 ∧ c3 = c4 := by injection e4 with a1 a2 a3; exact ⟨a1, a2, a3⟩
          have HA := Lib.hid (spec_l04Alike' _ _ _ _ (w2.drewN nq) hs4 (HOU.out.below (below_drewN (Below.refl _ _) nq)).sl (by rw [tbl_length, tbl_length]) (by rw [tbl_length]; omega))
          have hg1 : (rf key j).getD n 0 = (rf key j)[n] := by simp [List.getD_eq_getElem?_getD, hltn]
          have hd : decide (tbl (rf key j)[n] = tbl (key j)) = decide ((rf key j).getD n 0 = key j) := by
            rw [decide_eq_decide, hg1]
            exact ⟨fun e => tbl_inj (HRK.out n hltn) HKA.out e, fun e => by rw [e]⟩
          rw [hd] at HA
          have HSn := Lib.hid (HSs.out n)
          have hsc := HScn.out n
          by_cases hq : (rf key j).getD n 0 = key j
          · rw [decide_eq_true hq] at HA
            have HSn2 : Hid (sc (rf key j) (key j) (n + 1) = n) := Lib.hid (by rw [HSn.out, if_pos hq])
            clear hs3 hs4 e4 hd hg1 hq
            go_wp2_with fail
            refine HA.out.mono ?_
            rintro e w3 ⟨rfl, nq2, rfl⟩
            go_wp2
            go_roundw
            case rel => exact ⟨n + 1, by omega, by go_num, by rw [HSn2.out], by first | exact ⟨_, rfl⟩ | exact ⟨_, World.drewN_drewN _ _ _⟩⟩
            case measure => simp [intOf]; omega
          · rw [decide_eq_false hq] at HA
            have HSn2 : Hid (sc (rf key j) (key j) (n + 1) = sc (rf key j) (key j) n) := Lib.hid (by rw [HSn.out, if_neg hq])
            clear hs3 hs4 e4 hd hg1 hq
            go_wp2_with fail
            refine HA.out.mono ?_
            rintro e w3 ⟨rfl, nq2, rfl⟩
            go_wp2
            go_roundw
            case rel => exact ⟨n + 1, by omega, by go_num, by rw [HSn2.out], by first | exact ⟨_, rfl⟩ | exact ⟨_, World.drewN_drewN _ _ _⟩⟩
            case measure => simp [intOf]; omega
        · obtain rfl : n = (rf key j).length := by omega
          have HT5 := Lib.hid (HT2.out.below (below_drewN (Below.refl _ _) nq))
          have HB5 : Hid (Below w.heap.size w (w2.drewN nq)) := Lib.hid (below_drewN HB2.out nq)
          have HOU5 : Hid (Ow cB 4 wr.heap.size (w2.drewN nq) (.slice Au 64 cu) (tbl (key j))) := Lib.hid (HOU.out.below (below_drewN (Below.refl _ _) nq))
          have hwz5 : wr.heap.size ≤ (w2.drewN nq).heap.size := hwz
          clear HT2 HB2 HOU hwz
          generalize w2.drewN nq = w5 at *
          by_cases hm : key j ∈ rf key j
          · obtain ⟨cc, hsc, hdv, hrf, hcc⟩ := step_old key j hm
            rw [hsc]
            have hge : decide ((cc : Int) < 0) = false := decide_eq_false (by omega)
            have HDV : Hid (li (dvd key (j + 1)).1 = li (dvd key j).1 ++ [(cc : Int)]) := Lib.hid (by rw [hdv, li_append]; rfl)
            have HRF := Lib.hid hrf
            have HLD : Hid ((li (dvd key j).1).length = j) := Lib.hid (by rw [li_length, dvd_length])
            clear hsc hdv hrf hm
            go_wp2_with (at_builtin; refine stopHere ?_)
            refine goHere ?_
            refine ap_one (K := cI) _ ty_int64 rfl _ _ rfl (xs := li (dvd key j).1) rfl HT5.out.oo (cc : Int) rfl rfl (by have := HLD.out; omega) HB5.out.size ?_
            intro v1 w6 ho1 hg1 hb1 hat1
            rw [← HDV.out] at ho1
            have HT6 : Hid (TB w.heap.size w6 v1 (li (dvd key (j + 1)).1) (.slice At (rf key j).length ct) ((rf key j).map tbl)) := Lib.hid (HT5.out.num (World.grownBy_alloc _ _ none) (by simp) ho1 hg1 hat1)
            have HB6 : Hid (Below w.heap.size w w6) := Lib.hid (HB5.out.trans hb1)
            clear ho1 hg1 hb1 hat1
            go_wp2
            go_roundw
            case rel => exact ⟨j + 1, by omega, by go_num, by rw [HRF.out]; exact HT6.out, HB6.out⟩
            case measure => simp [intOf]; omega
          · obtain ⟨hsc, hdv, hrf⟩ := step_new key j hm
            rw [hsc]
            have HDV : Hid (li (dvd key (j + 1)).1 = li (dvd key j).1 ++ [((rf key j).length : Int)]) := Lib.hid (by rw [hdv, li_append]; rfl)
            have HRF : Hid ((rf key (j + 1)).map tbl = (rf key j).map tbl ++ [tbl (key j)]) := Lib.hid (by rw [hrf, List.map_append]; rfl)
            have HLD : Hid ((li (dvd key j).1).length = j) := Lib.hid (by rw [li_length, dvd_length])
            obtain ⟨hs7, h71, h72, h73⟩ := HT5.out.tab HOU5.out (fun k hk => (HLO.out k hk).2) HLT2.out
            have H71 := Lib.hid h71
            have H73 := Lib.hid h73
            have h72' : hs7.length = (rf key j).length := by rw [h72, List.length_map]
            clear hsc hdv hrf hm h71 h72 h73
            go_wp2_with (at_builtin; refine stopHere ?_)
            refine goHere ?_
            refine ap_one (K := cH) _ ty_boolss rfl _ _ rfl (xs := hs7) rfl H71.out ⟨Au, 64, cu⟩ rfl rfl (by omega) HB5.out.size ?_
            intro v1 w6 ho1 hg1 hb1 hat1
            have HT6 : Hid (TB w.heap.size w6 u5 (li (dvd key j).1) v1 ((rf key (j + 1)).map tbl)) := Lib.hid (by rw [HRF.out]; exact H73.out w6 v1 _ (World.grownBy_alloc _ _ none) (by simp) ho1 hg1 hat1)
            have HB6 : Hid (Below w.heap.size w w6) := Lib.hid (HB5.out.trans hb1)
            obtain ⟨A6, c6, rfl⟩ := ho1.opn
            have hl6 : (hs7 ++ [(⟨Au, 64, cu⟩ : Hd)]).length = (rf key j).length + 1 := by rw [List.length_append, h72']; rfl
            rw [hl6] at HT6 ⊢
            clear ho1 hg1 hb1 hat1 H71 H73
            go_wp2_with (at_builtin; refine stopHere ?_)
            refine goHere ?_
            refine ap_one (K := cI) _ ty_int64 rfl _ _ rfl (xs := li (dvd key j).1) rfl HT6.out.oo (((rf key j).length : Nat) : Int) rfl rfl (by have := HLD.out; omega) HB6.out.size ?_
            intro v2 w7 ho1 hg1 hb1 hat1
            rw [← HDV.out] at ho1
            have HT7 := Lib.hid (HT6.out.num (World.grownBy_alloc _ _ none) (by simp) ho1 hg1 hat1)
            have HB7 : Hid (Below w.heap.size w w7) := Lib.hid (HB6.out.trans hb1)
            clear ho1 hg1 hb1 hat1
            go_wp2
            go_roundw
            case rel => exact ⟨j + 1, by omega, by go_num, HT7.out, HB7.out⟩
            case measure => simp [intOf]; omega
    · obtain rfl : j = O.length := by omega
      have HO := Lib.hid ht.oo
      have HB := Lib.hid hb
      clear ht hb
      go_wp2
      go_ret2
      exact ⟨_, rfl, HO.out, HB.out⟩
end Go.Proofs.Ytgdmfihnbbgcoaa

/- (light texts: 33G with 33ww for 33w) OuterParts of both sides: the texts of the outer parts. -/
import Derived.Test.YtgcoohlakcncbaaGreat33R
import Derived.Test.YtgcoohlakcncbaaGreat33ww
import Derived.Test.YtgcoohlakcncbaaGreatSS
namespace Go.Proofs.YtgcoohlakcncbaaGreat
open Go.RowKit
set_option linter.unusedVariables false
set_option linter.unusedSimpArgs false
set_option maxRecDepth 100000 in
theorem impl_textsOf (O : List Fm) (A : Option Addr) (c : Nat) (w : World) (h : Sl2 cN w (.slice A O.length c) (O.map enc)) (hO : O.length ≤ 1000) (hk : ∀ x ∈ O, x.ok = true ∧ (enc x).length ≤ 100) :
    Calls Tryz.prog 93 #[.slice A O.length c] w fun e w' => ∃ u, e = .returned u ∧ Ow cS 9 w.heap.size w' u (O.map txt) ∧ Below w.heap.size w w' := by
  have H2 := Lib.hid h
  have HK := Lib.hid hk
  have HLM : Hid ((O.map enc).length = O.length) := Lib.hid (List.length_map _)
  have HLT : Hid ((O.map txt).length = O.length) := Lib.hid (List.length_map _)
  clear h hk
  go_enter Tryz.func93, Tryz.ntmps93
  go_wp2
  go_loopw [3, 8] (fun q i wr => ∃ j : Nat, j ≤ O.length ∧ i = .int .i64 j ∧ Ow cS 9 w.heap.size wr q ((O.map txt).take j) ∧ Below w.heap.size w wr) (fun _ i _ => O.length - (intOf i).toNat)
  case atStart => exact ⟨0, Nat.zero_le _, rfl, by simpa using Ow.nil _ _, Below.refl _ _⟩
  case round =>
    obtain ⟨j, hj, rfl, ho, hb⟩ := hrel
    by_cases hlt : j < O.length
    · have hlt' : j < (O.map enc).length := by rw [HLM.out]; exact hlt
      obtain ⟨b, o, A2, c2, rfl, hbl, hc0, hs2⟩ := (H2.out.below hb).atM hlt'
      have he : (O.map enc)[j]'hlt' = enc (O[j]'hlt) := List.getElem_map _
      rw [he] at hc0 hs2
      have HT := Lib.hid (impl_text (O[j]'hlt) _ _ hs2 (by have := (HK.out _ (List.getElem_mem hlt)).2; omega) (HK.out _ (List.getElem_mem hlt)).1)
      have HX : Hid ((O.map txt).take (j + 1) = (O.map txt).take j ++ [txt (O[j]'hlt)]) := Lib.hid (by rw [List.take_succ_eq_append_getElem (by rw [HLT.out]; exact hlt), List.getElem_map])
      have HL : Hid (((O.map txt).take j).length = j) := Lib.hid (by rw [List.length_take, HLT.out]; omega)
      have HO := Lib.hid ho
      have HB := Lib.hid hb
      obtain ⟨m, hm⟩ : ∃ m, (enc (O[j]'hlt)).length = m := ⟨_, rfl⟩
      obtain ⟨z, hz⟩ : ∃ z, txt (O[j]'hlt) = z := ⟨_, rfl⟩
      obtain ⟨ys, hys⟩ : ∃ ys, (O.map txt).take j = ys := ⟨_, rfl⟩
      rw [hm] at hc0 HT
      rw [hz] at HT HX
      rw [hys] at HO HX HL
      clear hs2 ho hb hm hz hys he
      go_wp2_with fail
      refine HT.out.mono ?_
      rintro e w2 ⟨rfl, n, rfl⟩
      have HO2 := Lib.hid (HO.out.drewN n)
      have HB2 : Hid (Below w.heap.size w (wr.drewN n)) := Lib.hid (below_drewN HB.out n)
      clear hc0
      generalize wr.drewN n = w2 at *
      go_wp2_with (at_builtin; refine stopHere ?_)
      refine goHere ?_
      refine ap_one (K := cS) _ ty_strL rfl _ _ rfl (xs := ys) rfl HO2.out z rfl rfl (by have := HL.out; omega) HB2.out.size ?_
      intro v1 w3 ho1 hg1 hb1 hat1
      have HO1 : Hid (Ow cS 9 w.heap.size w3 v1 ((O.map txt).take (j + 1))) := Lib.hid (by rw [HX.out]; exact ho1)
      have HB5 : Hid (Below w.heap.size w w3) := Lib.hid (HB2.out.trans hb1)
      clear ho1 hg1 hb1 hat1
      go_wp2
      go_roundw
      case rel => exact ⟨j + 1, by omega, by go_num, HO1.out, HB5.out⟩
      case measure => simp [intOf]; omega
    · obtain rfl : j = O.length := by omega
      rw [show (O.map txt).take O.length = O.map txt by rw [← HLT.out, List.take_length]] at ho
      have HO := Lib.hid ho
      have HB := Lib.hid hb
      clear ho hb
      go_wp2
      go_ret
      exact ⟨_, rfl, HO.out, HB.out⟩
theorem impl_OuterParts_bad (v : Value) (xs : List Nd) (s : Int) (w : World) (h : Sl cN w v xs) (hl : xs.length ≤ 1048576) (hc : vcode xs s ≠ 0) :
    Calls Tryz.prog 22 #[v, .int .i64 s] w fun e w' => e = .returned (.tuple #[.slice none 0 0, .int .i64 (vcode xs s)]) ∧ Below w.heap.size w w' := by
  have H1 := Lib.hid (impl_variableCode v xs s w h hl)
  have hc' : (vcode xs s != 0) = true := by simpa using hc
  generalize vcode xs s = k at *
  clear h hc
  go_enter Tryz.func22, Tryz.ntmps22
  go_wp2_with fail
  refine H1.out.mono ?_
  rintro e w1 ⟨rfl, hb⟩
  have HB := Lib.hid hb; clear hb
  go_wp2
  go_ret2
  exact ⟨rfl, HB.out⟩
theorem spec_OuterParts_bad (v : Value) (xs : List Nd) (s : Int) (w : World) (h : Sl cN w v xs) (hl : xs.length ≤ 1048576) (hc : vcode xs s ≠ 0) :
    Calls Tryz.prog 23 #[v, .int .i64 s] w fun e w' => e = .returned (.tuple #[.slice none 0 0, .int .i64 (vcode xs s)]) ∧ Below w.heap.size w w' := by
  have H1 := Lib.hid (spec_l33Code v xs s w h hl)
  have hc' : (vcode xs s != 0) = true := by simpa using hc
  generalize vcode xs s = k at *
  clear h hc
  go_enter Tryz.func23, Tryz.ntmps23
  go_wp2_with fail
  refine H1.out.mono ?_
  rintro e w1 ⟨rfl, rfl⟩
  go_wp2
  go_ret2
  exact ⟨rfl, Below.refl _ _⟩
theorem outs_props {f : Fm} {s : Nat} (hok : f.ok = true) (hl : (enc f).length ≤ 40) : (outs s f []).length ≤ 1000 ∧ ∀ x ∈ outs s f [], x.ok = true ∧ (enc x).length ≤ 100 :=
  ⟨by have := outs_length s f; have := occs_count s f; omega, fun x hx => ⟨occs_ok hok _ (outs_mem hx), by have := (occs_len (outs_mem hx)).2; omega⟩⟩
set_option maxRecDepth 100000 in
theorem impl_OuterParts_ok (v : Value) (f : Fm) (s : Nat) (w : World) (h : Sl cN w v (enc f)) (hl : (enc f).length ≤ 40) (hok : f.ok = true) (hs : s ≤ 5) :
    Calls Tryz.prog 22 #[v, .int .i64 s] w fun e w' => ∃ u, e = .returned (.tuple #[u, .int .i64 0]) ∧ Ow cS 9 w.heap.size w' u ((outs s f []).map txt) ∧ Below w.heap.size w w' := by
  have hcode := vcode_ok ((isF_iff _).2 ⟨f, hok, rfl, hl⟩) hs
  have H1 := Lib.hid (hcode ▸ impl_variableCode v (enc f) s w h (by omega))
  have H4 := Lib.hid (fun W (hW : Below w.heap.size w W) => impl_outerParts f s v W (h.below hW) hok (by omega) hs)
  obtain ⟨p1, p2⟩ := outs_props (s := s) hok hl
  have HP := Lib.hid p2
  clear h hcode p2
  generalize outs s f [] = O at *
  go_enter Tryz.func22, Tryz.ntmps22
  go_wp2_with fail
  refine H1.out.mono ?_
  rintro e w1 ⟨rfl, hb⟩
  have HB := Lib.hid hb; clear hb
  go_wp2_with fail
  refine (H4.out _ HB.out).mono ?_
  rintro e w4 ⟨uo, hs4, rfl, ho, hH, hb⟩
  have hs2 : Sl2 cN w4 uo (O.map enc) := (hH.below hb).sl2 ho.sl
  obtain ⟨Ao, co, rfl⟩ := hs2.opn
  rw [List.length_map] at hs2 ⊢
  have HB4 := Lib.hid (bthen HB.out hb)
  have HT := Lib.hid (impl_textsOf O Ao co w4 hs2 p1 HP.out)
  clear ho hH hb hs2
  go_wp2_with fail
  refine HT.out.mono ?_
  rintro e w5 ⟨u5, rfl, ho5, hb5⟩
  have HO5 := Lib.hid (ho5.mono HB4.out.size)
  have HB5 := Lib.hid (bthen HB4.out hb5)
  clear ho5 hb5
  go_wp2
  go_ret2
  exact ⟨_, rfl, HO5.out, HB5.out⟩
set_option maxRecDepth 100000 in
theorem spec_OuterParts_ok (v : Value) (f : Fm) (s : Nat) (w : World) (h : Sl cN w v (enc f)) (hl : (enc f).length ≤ 40) (hok : f.ok = true) (hs : s ≤ 5) :
    Calls Tryz.prog 23 #[v, .int .i64 s] w fun e w' => ∃ u, e = .returned (.tuple #[u, .int .i64 0]) ∧ Ow cS 9 w.heap.size w' u ((outs s f []).map txt) ∧ Below w.heap.size w w' := by
  have hcode := vcode_ok ((isF_iff _).2 ⟨f, hok, rfl, hl⟩) hs
  have H1 := Lib.hid (hcode ▸ spec_l33Code v (enc f) s w h (by omega))
  have HOut := Lib.hid (fun (uh : Value) W B (hW : Below w.heap.size w W) (hB : w.heap.size ≤ B) (hBW : B ≤ W.heap.size) (hO : Ow cH 26 B W uh []) => spec_l33Outer s f v uh [] [] w W B h hW hB hBW hO Hs.nil (by have := occs_count s f; simp; omega) (by omega) (fun x hx => by cases hx))
  obtain ⟨p1, p2⟩ := outs_props (s := s) hok hl
  have HP := Lib.hid p2
  clear h hcode p2
  generalize outs s f [] = O at *
  have HLM : Hid ((O.map enc).length = O.length) := Lib.hid (List.length_map _)
  have HLT : Hid ((O.map txt).length = O.length) := Lib.hid (List.length_map _)
  have hb00 := below_alloc' w (.cells #[] 9)
  have hb0 := hb00.trans ((below_alloc' (w.alloc (.cells #[] 9)) (.cells #[] 26)).mono hb00.size)
  have HS0 := Lib.hid ((Ow.lit (w := w) (K := cS) (e := 9) (cs := #[]) [] rfl rfl (Nat.le_refl _)).below (below_alloc' (w.alloc (.cells #[] 9)) (.cells #[] 26)))
  have ho9 : Ow cH 26 (w.heap.size + 1) ((w.alloc (.cells #[] 9)).alloc (.cells #[] 26)) (.slice (some ⟨w.heap.size + 1, 0, none⟩) 0 0) [] := by
    have h9 := Ow.lit (w := w.alloc (.cells #[] 9)) (K := cH) (e := 26) (cs := #[]) (B := w.heap.size + 1) [] rfl rfl (by simp)
    rwa [show (w.alloc (.cells #[] 9)).heap.size = w.heap.size + 1 by simp] at h9
  have hs9 : ((w.alloc (.cells #[] 9)).alloc (.cells #[] 26)).heap.size = w.heap.size + 2 := by simp
  have HO0 := Lib.hid (HOut.out _ _ (w.heap.size + 1) hb0 (by omega) (by omega) ho9)
  have e9 : (w.alloc (.cells #[] 9)).heap.size = w.heap.size + 1 := by simp
  have HS0 := Lib.hid (fun w2 (hb : Below (w.heap.size + 1) ((w.alloc (.cells #[] 9)).alloc (.cells #[] 26)) w2) => (Ow.lit (w := w) (K := cS) (e := 9) (cs := #[]) (B := w.heap.size) [] rfl rfl (Nat.le_refl _)).below ((below_alloc' (w.alloc (.cells #[] 9)) (.cells #[] 26)).trans (by rw [e9]; exact hb)))
  have HB0 := Lib.hid hb0
  clear hb0 hb00 ho9 hs9 e9
  go_enter Tryz.func23, Tryz.ntmps23
  go_wp2_with fail
  refine H1.out.mono ?_
  rintro e w1 ⟨rfl, rfl⟩
  go_wp2_with fail
  refine HO0.out.mono ?_
  rintro e w2 ⟨uo, hs2, rfl, ho, hH, hb⟩
  have hbb := HB0.out.trans (hb.mono (by omega))
  have hs3 : Sl2 cN w2 uo (O.map enc) := (hH.below hbb).sl2 ho.sl
  obtain ⟨Ao, co, rfl⟩ := hs3.opn
  rw [List.length_map] at ho ⊢
  have HU := Lib.hid (fun k hk => ho.block k hk)
  have HH := Lib.hid hH
  have HB4 := Lib.hid hbb
  have HO4 := Lib.hid ho
  have HQ := Lib.hid (HS0.out w2 hb)
  have hsz := hbb.size
  clear ho hH hb hs3 hbb
  go_wp2
  go_loopw [7, 9] (fun q i wr => ∃ j : Nat, j ≤ O.length ∧ i = .int .i64 j ∧ Ow cS 9 w.heap.size wr q ((O.map txt).take j) ∧ Below w.heap.size w wr ∧ w2.heap.size ≤ wr.heap.size ∧ Ow cH 26 (w.heap.size + 1) wr (.slice Ao O.length co) hs2 ∧ (∀ k, q.ownBlock = some k → k = w.heap.size ∨ w2.heap.size ≤ k)) (fun _ i _ => O.length - (intOf i).toNat)
  case atStart => exact ⟨0, Nat.zero_le _, rfl, by simpa using HQ.out, HB4.out, Nat.le_refl _, HO4.out, fun k hk => .inl (by injection hk with hk; exact hk.symm)⟩
  case round =>
    obtain ⟨j, hj, rfl, ho, hb, hz2, hO, hq⟩ := hrel
    by_cases hlt : j < O.length
    · have hlt' : j < (O.map enc).length := by rw [HLM.out]; exact hlt
      have hS := (HH.out.below hb).sl2 hO.sl
      obtain ⟨b, o, A2, c2, rfl, hbl, hc0, hs2⟩ := hS.atM hlt'
      have he : (O.map enc)[j]'hlt' = enc (O[j]'hlt) := List.getElem_map _
      rw [he] at hc0 hs2
      have HT := Lib.hid (spec_l02Text (O[j]'hlt) _ _ hs2 (by have := (HP.out _ (List.getElem_mem hlt)).2; omega) (HP.out _ (List.getElem_mem hlt)).1)
      have HX : Hid ((O.map txt).take (j + 1) = (O.map txt).take j ++ [txt (O[j]'hlt)]) := Lib.hid (by rw [List.take_succ_eq_append_getElem (by rw [HLT.out]; exact hlt), List.getElem_map])
      have HL : Hid (((O.map txt).take j).length = j) := Lib.hid (by rw [List.length_take, HLT.out]; omega)
      have HO := Lib.hid ho
      have HOO := Lib.hid hO
      have HB := Lib.hid hb
      have HQ2 := Lib.hid hq
      obtain ⟨m, hm⟩ : ∃ m, (enc (O[j]'hlt)).length = m := ⟨_, rfl⟩
      obtain ⟨z, hz⟩ : ∃ z, txt (O[j]'hlt) = z := ⟨_, rfl⟩
      obtain ⟨ys, hys⟩ : ∃ ys, (O.map txt).take j = ys := ⟨_, rfl⟩
      rw [hm] at hc0 HT
      rw [hz] at HT HX
      rw [hys] at HO HX HL
      clear hs2 ho hb hm hz hys he hS hO hq
      go_wp2_with fail
      refine HT.out.mono ?_
      rintro e w3 ⟨rfl, hb⟩
      have HO2 := Lib.hid (HO.out.below hb)
      have HOO2 := Lib.hid (HOO.out.below hb)
      have HB2 : Hid (Below w.heap.size w w3) := Lib.hid (bthen HB.out hb)
      have hz3 : w2.heap.size ≤ w3.heap.size := Nat.le_trans hz2 hb.size
      clear hc0 hb
      go_wp2_with (at_builtin; refine stopHere ?_)
      refine goHere ?_
      refine ap_one (K := cS) _ ty_strL rfl _ _ rfl (xs := ys) rfl HO2.out z rfl rfl (by have := HL.out; omega) HB2.out.size ?_
      intro v1 w4 ho1 hg1 hb1 hat1
      have HO1 : Hid (Ow cS 9 w.heap.size w4 v1 ((O.map txt).take (j + 1))) := Lib.hid (by rw [HX.out]; exact ho1)
      have HB5 : Hid (Below w.heap.size w w4) := Lib.hid (HB2.out.trans hb1)
      have HOO3 := Lib.hid (HOO2.out.kept (grown_alloc _ hg1) (by
        cases hu : (Value.slice (some ⟨b, o, none⟩) O.length co).ownBlock with
        | none => exact .inl rfl
        | some k =>
          refine .inr fun e => ?_
          have a1 := HU.out k hu
          have a2 := HQ2.out k e.symm
          omega))
      have HQ3 := Lib.hid (show ∀ k, v1.ownBlock = some k → k = w.heap.size ∨ w2.heap.size ≤ k from fun k hk => by
        rcases hat1 with e | e
        · exact HQ2.out k (e.symm.trans hk)
        · rw [e] at hk
          injection hk with hk
          omega)
      have hz4 : w2.heap.size ≤ w4.heap.size := Nat.le_trans hz3 (grown_alloc _ hg1).size
      clear ho1 hg1 hb1 hat1
      go_wp2
      go_roundw
      case rel => exact ⟨j + 1, by omega, by go_num, HO1.out, HB5.out, hz4, HOO3.out, HQ3.out⟩
      case measure => simp [intOf]; omega
    · obtain rfl : j = O.length := by omega
      rw [show (O.map txt).take O.length = O.map txt by rw [← HLT.out, List.take_length]] at ho
      have HO := Lib.hid ho
      have HB := Lib.hid hb
      clear ho hb hO hq
      go_wp2
      go_ret2
      exact ⟨_, rfl, HO.out, HB.out⟩
end Go.Proofs.YtgcoohlakcncbaaGreat

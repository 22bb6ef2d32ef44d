/- Joined of several texts. -/
import Derived.Test.YtcikenffeekkeaaGreatDoorY33
namespace Go.Proofs.YtcikenffeekkeaaGreatDoor
/- Contracts of the program: the first line that is not as in a proof. -/
open Go.RowKit
set_option linter.unusedVariables false
set_option linter.unusedSimpArgs false
theorem fine_isF {t : List UInt8} {hy : List (List Nd)} {ls : List Ln} {k : Nat} {l : Ln} (h : fine t hy ls k l = true) : isF l.x = true := by
  unfold fine at h
  rw [Bool.and_eq_true] at h
  exact h.1
theorem fine_len {t : List UInt8} {hy : List (List Nd)} {ls : List Ln} {k : Nat} {l : Ln} (h : fine t hy ls k l = true) : l.x.length ≤ 40 := by
  obtain ⟨g, -, e, hl⟩ := (isF_iff _).1 (fine_isF h)
  rw [e]; exact hl
theorem inR_nat {x : Int} {k : Nat} (h : inR x 0 ((k : Int) - 1) = true) : ∃ i : Nat, x = i ∧ i < k := by
  unfold inR at h
  simp only [Bool.and_eq_true, decide_eq_true_eq] at h
  exact ⟨x.toNat, by omega, by omega⟩
theorem fine_prm {t : List UInt8} {hy : List (List Nd)} {ls : List Ln} {k : Nat} {l : Ln} (h : fine t hy ls k l = true) : ∀ x ∈ prmL l, ∃ i : Nat, x = i ∧ i < k := by
  unfold fine at h
  rw [Bool.and_eq_true] at h
  have h2 := h.2
  intro x hx
  unfold prmL at hx
  by_cases h3 : l.r = 3
  · rw [if_neg (by omega), if_neg (by omega), if_pos h3] at h2
    simp only [Bool.and_eq_true] at h2
    rw [if_pos h3] at hx
    simp only [List.mem_cons, List.not_mem_nil, or_false] at hx
    rcases hx with rfl | rfl
    · exact inR_nat h2.1.1
    · exact inR_nat h2.1.2
  · rw [if_neg h3] at hx
    by_cases h4 : l.r = 4
    · rw [if_neg (by omega), if_neg (by omega), if_neg h3, if_pos h4] at h2
      simp only [Bool.and_eq_true] at h2
      rw [if_pos h4] at hx
      rw [List.mem_singleton.1 hx]
      exact inR_nat h2.1.1.2
    · rw [if_neg h4] at hx; cases hx
theorem UsO.flags {B : Nat} {w : World} {v : Value} {ls : List Ln} {k : Nat} (hk : k ≤ ls.length) (h : UsO B w v (ussA (ls.take k))) : UsR w v (flgs (ls.take k)) := by
  obtain ⟨h1, h2⟩ := ussA_inv ls k hk
  have hfl : (flgs (ls.take k)).length = k := by rw [flgs_len, List.length_take]; omega
  refine h.usR (by omega) fun i p q => ?_
  have := (h2 i).2.2
  rw [List.getD_eq_getElem?_getD, List.getElem?_eq_getElem p, List.getD_eq_getElem?_getD, List.getElem?_eq_getElem q] at this
  exact this
/-- are all lines as in a proof? -/
noncomputable def allFine (t : List UInt8) (hy : List (List Nd)) (ls : List Ln) : Bool := (List.range ls.length).all fun k => fine t hy ls k (ls.getD k ⟨0, 0, 0, []⟩)
theorem allFine_of {t : List UInt8} {hy : List (List Nd)} {ls : List Ln} (h : ∀ i (hi : i < ls.length), fine t hy ls i (ls[i]'hi) = true) : allFine t hy ls = true := by
  unfold allFine
  rw [List.all_eq_true]
  intro k hk
  have hk' := List.mem_range.1 hk
  rw [List.getD_eq_getElem?_getD, List.getElem?_eq_getElem hk']
  exact h k hk'
theorem allFine_no {t : List UInt8} {hy : List (List Nd)} {ls : List Ln} {i : Nat} (hi : i < ls.length) (h : fine t hy ls i (ls[i]'hi) = false) : allFine t hy ls = false := by
  unfold allFine
  rw [List.all_eq_false]
  refine ⟨i, List.mem_range.2 hi, ?_⟩
  rw [List.getD_eq_getElem?_getD, List.getElem?_eq_getElem hi]
  simpa using h
set_option maxRecDepth 100000 in
set_option maxHeartbeats 2000000 in
theorem impl_firstBad (t : List UInt8) (hy : List (List Nd)) (ls : List Ln) (vh vl : Value) (w0 w : World) (hT : TabS w0) (hD : Blk w w0.heap.size 85 #[.string ⟨⟨t⟩⟩, vh, vl, .slice none 0 0]) (hH : Sl2 cN w0 vh hy) (hhl : hy.length ≤ 1048576) (hhy : ∀ xs ∈ hy, xs.length ≤ 1048576)
    (hL : SlL w0 vl ls) (hll : ls.length ≤ 200) (hlx : ∀ l ∈ ls, l.x.length ≤ 1048576) (hb : Below w0.heap.size w0 w) :
    Calls Tryz.prog 45 #[.pointer (some ⟨w0.heap.size, 0, none⟩)] w fun e w' => ∃ i : Int, e = .returned (.int .i64 i) ∧ decide (0 ≤ i) = !allFine t hy ls ∧ Below w0.heap.size w w' ∧
      (allFine t hy ls = true → ∃ vu, Blk w' w0.heap.size 85 #[.string ⟨⟨t⟩⟩, vh, vl, vu] ∧ UsO (w0.heap.size + 1) w' vu (ussA ls)) := by
  obtain ⟨Al, cl, rfl⟩ := hL.opn
  obtain ⟨D, hDD⟩ : ∃ D, w0.heap.size = D := ⟨_, rfl⟩
  have HDD := Lib.hid hDD
  have HL0 := Lib.hid hL
  have HH0 := Lib.hid hH
  have HT0 := Lib.hid hT
  have HB := Lib.hid hb
  have HHY := Lib.hid hhy
  have HLX := Lib.hid hlx
  rw [hDD] at hD ⊢
  have HD0 := Lib.hid hD
  have HUT : Hid (ussA (ls.take ls.length) = ussA ls) := Lib.hid (by rw [List.take_length])
  have HAO := Lib.hid (fun h => allFine_of (t := t) (hy := hy) (ls := ls) h)
  have HAN := Lib.hid (fun i hi h => allFine_no (t := t) (hy := hy) (ls := ls) (i := i) hi h)
  have d2 := hD.cell 2
  have ld := hD.lt
  clear hDD hT hD hH hL hb hhy hlx
  generalize allFine t hy ls = af at *
  go_enter Tryz.func45, Tryz.ntmps45
  go_wp2
  go_loopw [10] (fun i wr => ∃ j : Nat, j ≤ ls.length ∧ i = .int .i64 j ∧ (∀ m (hm : m < ls.length), m < j → fine t hy ls m (ls[m]'hm) = true) ∧ (∃ vu, Blk wr D 85 #[.string ⟨⟨t⟩⟩, vh, .slice Al ls.length cl, vu] ∧ UsO (D + 1) wr vu (ussA (ls.take j))) ∧ Below D w wr) (fun i _ => ls.length - (intOf i).toNat)
  case atStart => exact ⟨0, Nat.zero_le _, rfl, fun m hm h => absurd h (Nat.not_lt_zero _), ⟨_, HD0.out, UsO.nil _ _⟩, Below.refl _ _⟩
  case round =>
    clear HD0 d2 ld
    obtain ⟨j, hj, rfl, hfi, ⟨vu, hd, hu⟩, hbr⟩ := hrel
    have HFI := Lib.hid hfi
    have HD := Lib.hid hd
    have HU := Lib.hid hu
    have HBr := Lib.hid hbr
    have hbw : Below w0.heap.size w0 wr := HB.out.trans (by rw [HDD.out]; exact hbr)
    have HBW := Lib.hid hbw
    clear hfi hd hu hbr
    by_cases hlt : j < ls.length
    · obtain ⟨bl, ol, Ai, ci, e1, hbl, hr, hf, hs, hx, hxs⟩ := (HL0.out.below hbw).at_ hlt
      subst e1
      have hbn := below_alloc' wr (.cells #[.int .i64 (ls[j]'hlt).r, .int .i64 (ls[j]'hlt).f, .int .i64 (ls[j]'hlt).s, .slice Ai (ls[j]'hlt).x.length ci] 46)
      have hkn := Blk.new wr 46 #[.int .i64 (ls[j]'hlt).r, .int .i64 (ls[j]'hlt).f, .int .i64 (ls[j]'hlt).s, .slice Ai (ls[j]'hlt).x.length ci]
      have HGd := Lib.hid (impl_isGood D t hy ls j hlt vh _ vu _ (HT0.out.below (bthen hbw hbn)) (HD.out.below hbn HD.out.lt) (HH0.out.below (bthen hbw hbn)) hhl HHY.out (HL0.out.below (bthen hbw hbn)) (by omega) HLX.out (fun i h hi => fine_len (HFI.out i h hi)) ((HU.out.below hbn).flags hj))
      have HPm := Lib.hid (fun (h : fine t hy ls j (ls[j]'hlt) = true) => fine_prm h)
      have HNt := Lib.hid (fun W (hW : Blk W D 85 #[.string ⟨⟨t⟩⟩, vh, .slice (some ⟨bl, ol, none⟩) ls.length cl, vu]) (hU : UsO (D + 1) W vu (ussA (ls.take j))) hin => impl_note D t ls j hlt (by omega) vh _ vu (.slice Ai (ls[j]'hlt).x.length ci) W hW hU hin)
      have HFN : Hid (fine t hy ls j (ls[j]'hlt) = true → ∀ m (hm : m < ls.length), m < j + 1 → fine t hy ls m (ls[m]'hm) = true) := Lib.hid fun h m hm hmj => by
        by_cases e : m = j
        · subst e; exact h
        · exact HFI.out m hm (by omega)
      have HANj := Lib.hid (fun h => HAN.out j hlt h)
      have HDn := Lib.hid (HD.out.below hbn HD.out.lt)
      have HUn := Lib.hid (HU.out.below hbn)
      have HBn := Lib.hid (HBr.out.trans (hbn.mono (Nat.le_of_lt HD.out.lt)))
      have HKn := Lib.hid hkn
      generalize fine t hy ls j (ls[j]'hlt) = fb at *
      generalize (ls[j]'hlt) = l at *
      clear hbn hkn hxs
      have HBL := Lib.hid hbl
      go_wp2_with fail
      refine HGd.out.mono ?_
      rintro e w3 ⟨rfl, hb3⟩
      have HB3 := Lib.hid hb3
      have HK3 := Lib.hid (HKn.out.below hb3 HKn.out.lt)
      have HD3 := Lib.hid (HDn.out.below hb3 HDn.out.lt)
      have HU3 := Lib.hid (HUn.out.below hb3)
      have HB03 := Lib.hid (HBn.out.trans (hb3.mono (Nat.le_of_lt HDn.out.lt)))
      have k0 := HK3.out.cell 0
      have k1 := HK3.out.cell 1
      have k2 := HK3.out.cell 2
      have k3 := HK3.out.cell 3
      have l1 := HK3.out.lt
      clear hb3
      cases fb with
      | false =>
        go_wp2
        go_ret
        refine ⟨j, rfl, ?_, ?_, ?_⟩
        · rw [HANj.out trivial]; simp
        · exact HB03.out
        · intro h; rw [HANj.out trivial] at h; cases h
      | true =>
        go_wp2_with fail
        refine (HNt.out w3 HD3.out HU3.out (HPm.out trivial)).mono ?_
        rintro e w4 ⟨rfl, vu', hd4, hu4, hb4⟩
        have HD4 := Lib.hid hd4
        have HU4 := Lib.hid hu4
        have HB4 := Lib.hid (HB03.out.trans hb4)
        clear hd4 hu4 hb4
        go_wp2
        go_roundw
        case rel => exact ⟨j + 1, by omega, by go_num, HFN.out trivial, ⟨vu', HD4.out, HU4.out⟩, HB4.out⟩
        case measure => simp [intOf]; omega
    · obtain rfl : j = ls.length := by omega
      have HF1 : Hid (af = true) := Lib.hid (HAO.out fun i hi => HFI.out i hi hi)
      go_wp2
      go_ret
      refine ⟨-1, rfl, ?_, HBr.out, fun _ => ⟨vu, HD.out, by rw [← HUT.out]; exact HU.out⟩⟩
      rw [HF1.out]; rfl
/- The library's search in a list of lines, and in a list of lists of lines. -/
open Go.RowKit
set_option linter.unusedVariables false
set_option linter.unusedSimpArgs false
set_option maxRecDepth 100000 in
theorem slices_IndexFunc_lines (v : Value) (gs : List Ln) (gp : FuncId) (lb : Array Value) (p : Nat → Bool) (J : World → Prop) (w : World) (hl : gs.length ≤ 1048576) (hJ : J w)
    (hk : ∀ args w, (callFunc gp args).run Tryz.prog w = .ok (.enter gp args) w) (hkeep : ∀ W, J W → SlL W v gs)
    (hp : ∀ W i (hi : i < gs.length) A c, J W → Sl cN W (.slice A (gs[i]'hi).x.length c) (gs[i]'hi).x → Calls Tryz.prog gp (#[.agg #[.int .i64 (gs[i]'hi).r, .int .i64 (gs[i]'hi).f, .int .i64 (gs[i]'hi).s, .slice A (gs[i]'hi).x.length c]] ++ lb) W fun e w' => e = .returned (.bool (p i)) ∧ J w') :
    Calls Tryz.prog 53 #[v, .func (.func gp) #[] lb] w fun e w' => ∃ r : Int, e = .returned (.int .i64 r) ∧ decide (0 ≤ r) = (List.range gs.length).any p ∧ J w' := by
  obtain ⟨A, c, rfl⟩ := (hkeep w hJ).opn
  have HJ := Lib.hid hJ
  have HKE := Lib.hid hkeep
  have HP := Lib.hid hp
  clear hJ hkeep hp
  go_enter Tryz.func53, Tryz.ntmps53
  go_wp2
  go_loopw [8] (fun i wr => ∃ j : Nat, j ≤ gs.length ∧ i = .int .i64 j ∧ J wr ∧ ∀ k, k < j → p k = false) (fun i _ => gs.length - (intOf i).toNat)
  case atStart => exact ⟨0, Nat.zero_le _, rfl, HJ.out, fun k h => absurd h (Nat.not_lt_zero _)⟩
  case round =>
    clear HJ
    obtain ⟨j, hj, rfl, hJ, hh⟩ := hrel
    have Hh := Lib.hid hh
    have HJ := Lib.hid hJ
    clear hh
    by_cases hlt : j < gs.length
    · obtain ⟨b, o, Ai, ci, rfl, hbl, hc0, hc1, hc2, hc3, hs⟩ := (HKE.out wr hJ).at_ hlt
      have HC := Lib.hid (HP.out wr j hlt Ai ci hJ hs)
      generalize gs[j]'hlt = l at *
      clear hs hJ
      go_wp2_with fail
      refine HC.out.mono ?_
      rintro e w1 ⟨rfl, hj1⟩
      have HJ1 := Lib.hid hj1
      clear hj1 hc0 hc1 hc2 hc3 hbl HC
      have HPT : Hid (p j = true → (List.range gs.length).any p = true) := Lib.hid fun h1 => List.any_eq_true.2 ⟨j, List.mem_range.2 hlt, h1⟩
      have HPF : Hid (p j = false → ∀ k, k < j + 1 → p k = false) := Lib.hid fun h1 k hk => by
        by_cases e : k = j
        · rw [e]; exact h1
        · exact Hh.out k (by omega)
      cases hpj : p j
      · have HN := Lib.hid (HPF.out hpj)
        clear HPT HPF hpj
        go_wp2
        go_roundw
        case rel => exact ⟨j + 1, by omega, by go_num, HJ1.out, HN.out⟩
        case measure => simp [intOf]; omega
      · have HN := Lib.hid (HPT.out hpj)
        clear HPT HPF hpj
        go_wp2
        go_ret
        exact ⟨j, rfl, by rw [HN.out]; simp, HJ1.out⟩
    · obtain rfl : j = gs.length := by omega
      have HA : Hid ((List.range gs.length).any p = false) := Lib.hid (by rw [List.any_eq_false]; intro k hk; rw [Hh.out k (List.mem_range.1 hk)]; decide)
      clear hJ
      go_wp2
      go_ret
      exact ⟨-1, rfl, by rw [HA.out]; rfl, HJ.out⟩
theorem slices_ContainsFunc_lines (v : Value) (gs : List Ln) (gp : FuncId) (lb : Array Value) (p : Nat → Bool) (J : World → Prop) (w : World) (hl : gs.length ≤ 1048576) (hJ : J w)
    (hk : ∀ args w, (callFunc gp args).run Tryz.prog w = .ok (.enter gp args) w) (hkeep : ∀ W, J W → SlL W v gs)
    (hp : ∀ W i (hi : i < gs.length) A c, J W → Sl cN W (.slice A (gs[i]'hi).x.length c) (gs[i]'hi).x → Calls Tryz.prog gp (#[.agg #[.int .i64 (gs[i]'hi).r, .int .i64 (gs[i]'hi).f, .int .i64 (gs[i]'hi).s, .slice A (gs[i]'hi).x.length c]] ++ lb) W fun e w' => e = .returned (.bool (p i)) ∧ J w') :
    Calls Tryz.prog 24 #[v, .func (.func gp) #[] lb] w fun e w' => e = .returned (.bool ((List.range gs.length).any p)) ∧ J w' := by
  have HC := Lib.hid (slices_IndexFunc_lines v gs gp lb p J w hl hJ hk hkeep hp)
  clear hJ hkeep hp
  go_enter Tryz.func24, Tryz.ntmps24
  go_wp2_with fail
  refine HC.out.mono ?_
  rintro e w1 ⟨r, rfl, hr, hj⟩
  have HR := Lib.hid hr
  have HJ := Lib.hid hj
  clear hr hj
  go_wp2
  go_ret
  exact ⟨by rw [← HR.out]; rfl, HJ.out⟩
set_option maxRecDepth 100000 in
theorem slices_IndexFunc_lists (v : Value) (gs : List Hd) (gp : FuncId) (lb : Array Value) (p : Nat → Bool) (J : World → Prop) (w : World) (hl : gs.length ≤ 1048576) (hJ : J w)
    (hk : ∀ args w, (callFunc gp args).run Tryz.prog w = .ok (.enter gp args) w) (hkeep : ∀ W, J W → Sl cH W v gs)
    (hp : ∀ W i (hi : i < gs.length), J W → Calls Tryz.prog gp (#[(gs[i]'hi).val] ++ lb) W fun e w' => e = .returned (.bool (p i)) ∧ J w') :
    Calls Tryz.prog 64 #[v, .func (.func gp) #[] lb] w fun e w' => ∃ r : Int, e = .returned (.int .i64 r) ∧ decide (0 ≤ r) = (List.range gs.length).any p ∧ J w' := by
  obtain ⟨A, c, rfl⟩ := (hkeep w hJ).opn
  have HJ := Lib.hid hJ
  have HKE := Lib.hid hkeep
  have HP := Lib.hid hp
  clear hJ hkeep hp
  go_enter Tryz.func64, Tryz.ntmps64
  go_wp2
  go_loopw [8] (fun i wr => ∃ j : Nat, j ≤ gs.length ∧ i = .int .i64 j ∧ J wr ∧ ∀ k, k < j → p k = false) (fun i _ => gs.length - (intOf i).toNat)
  case atStart => exact ⟨0, Nat.zero_le _, rfl, HJ.out, fun k h => absurd h (Nat.not_lt_zero _)⟩
  case round =>
    clear HJ
    obtain ⟨j, hj, rfl, hJ, hh⟩ := hrel
    have Hh := Lib.hid hh
    have HJ := Lib.hid hJ
    clear hh
    by_cases hlt : j < gs.length
    · obtain ⟨b, o, rfl, hbl, hc⟩ := (HKE.out wr hJ).cell hlt
      have hc0 := hc 0 _ rfl
      have HC := Lib.hid (HP.out wr j hlt hJ)
      obtain ⟨⟨a, n, cc⟩, hgv⟩ : ∃ h, gs[j]'hlt = h := ⟨_, rfl⟩
      rw [hgv] at HC hc0
      change wr.cell? ⟨b, o + j * 1 + 0, none⟩ = some (.slice a n cc) at hc0
      rw [Nat.mul_one, Nat.add_zero] at hc0
      clear hc hJ hgv
      go_wp2_with fail
      refine HC.out.mono ?_
      rintro e w1 ⟨rfl, hj1⟩
      have HJ1 := Lib.hid hj1
      clear hj1 hc0 hbl HC
      have HPT : Hid (p j = true → (List.range gs.length).any p = true) := Lib.hid fun h1 => List.any_eq_true.2 ⟨j, List.mem_range.2 hlt, h1⟩
      have HPF : Hid (p j = false → ∀ k, k < j + 1 → p k = false) := Lib.hid fun h1 k hk => by
        by_cases e : k = j
        · rw [e]; exact h1
        · exact Hh.out k (by omega)
      cases hpj : p j
      · have HN := Lib.hid (HPF.out hpj)
        clear HPT HPF hpj
        go_wp2
        go_roundw
        case rel => exact ⟨j + 1, by omega, by go_num, HJ1.out, HN.out⟩
        case measure => simp [intOf]; omega
      · have HN := Lib.hid (HPT.out hpj)
        clear HPT HPF hpj
        go_wp2
        go_ret
        exact ⟨j, rfl, by rw [HN.out]; simp, HJ1.out⟩
    · obtain rfl : j = gs.length := by omega
      have HA : Hid ((List.range gs.length).any p = false) := Lib.hid (by rw [List.any_eq_false]; intro k hk; rw [Hh.out k (List.mem_range.1 hk)]; decide)
      clear hJ
      go_wp2
      go_ret
      exact ⟨-1, rfl, by rw [HA.out]; rfl, HJ.out⟩
theorem slices_ContainsFunc_lists (v : Value) (gs : List Hd) (gp : FuncId) (lb : Array Value) (p : Nat → Bool) (J : World → Prop) (w : World) (hl : gs.length ≤ 1048576) (hJ : J w)
    (hk : ∀ args w, (callFunc gp args).run Tryz.prog w = .ok (.enter gp args) w) (hkeep : ∀ W, J W → Sl cH W v gs)
    (hp : ∀ W i (hi : i < gs.length), J W → Calls Tryz.prog gp (#[(gs[i]'hi).val] ++ lb) W fun e w' => e = .returned (.bool (p i)) ∧ J w') :
    Calls Tryz.prog 42 #[v, .func (.func gp) #[] lb] w fun e w' => e = .returned (.bool ((List.range gs.length).any p)) ∧ J w' := by
  have HC := Lib.hid (slices_IndexFunc_lists v gs gp lb p J w hl hJ hk hkeep hp)
  clear hJ hkeep hp
  go_enter Tryz.func42, Tryz.ntmps42
  go_wp2_with fail
  refine HC.out.mono ?_
  rintro e w1 ⟨r, rfl, hr, hj⟩
  have HR := Lib.hid hr
  have HJ := Lib.hid hj
  clear hr hj
  go_wp2
  go_ret
  exact ⟨by rw [← HR.out]; rfl, HJ.out⟩
/- Contracts of the program: the codes of a system and hypotheses, and of a list of lines; the derivation of a proof. -/
open Go.RowKit
set_option linter.unusedVariables false
set_option linter.unusedSimpArgs false
/-- a pointer to a block -/
def cP : Cod Nat := ⟨1, fun x => [.pointer (some ⟨x, 0, none⟩)], fun _ => rfl, by decide, fun _ u hu => by simp at hu; subst hu; rfl⟩
theorem ty_ptrs : Ty Tryz.prog 50 58 (.pointer none) 1 8 := Ty.mk' Tryz.underlying50 (by kernel_rfl) rfl (by decide)
/-- not too few and not too many -/
def lnC (n : Nat) : Bool := decide (1 ≤ n) && decide (n ≤ 200)
theorem impl_isLineCount (A : Option Addr) (n c : Nat) (w : World) : Calls Tryz.prog 44 #[.slice A n c] w fun e w' => e = .returned (.bool (lnC n)) ∧ w = w' := by
  have H : Hid ((decide (1 ≤ (n : Int)) && decide ((n : Int) ≤ 200)) = lnC n) := Lib.hid (by unfold lnC; congr 1 <;> (rw [decide_eq_decide]; omega))
  cases h1 : decide (1 ≤ (n : Int)) with
  | true =>
    rw [h1] at H
    go_enter Tryz.func44, Tryz.ntmps44
    go_wp2
    go_ret
    exact ⟨by rw [← H.out]; simp, rfl⟩
  | false =>
    rw [h1] at H
    go_enter Tryz.func44, Tryz.ntmps44
    go_wp2
    go_ret
    exact ⟨by rw [← H.out]; simp, rfl⟩
theorem impl_provenLines_1 (A : Option Addr) (n c : Nat) (w : World) : Calls Tryz.prog 43 #[.slice A n c] w fun e w' => e = .returned (.bool (!lnC n)) ∧ w = w' := by
  have H := Lib.hid (impl_isLineCount A n c w)
  generalize lnC n = b at *
  go_enter Tryz.func43, Tryz.ntmps43
  go_wp2_with fail
  refine H.out.mono ?_
  rintro e w1 ⟨rfl, rfl⟩
  cases b <;> (go_wp2; go_ret; exact ⟨by simp, rfl⟩)
theorem en_provenLines_1 : ∀ (args : Array Value) (w : World), (callFunc 43 args).run Tryz.prog w = .ok (.enter 43 args) w := enters Tryz.func43 (by kernel_rfl) (by kernel_rfl)
/-- the derivation of a proof -/
def DrP (t : List UInt8) (vh vl : Value) (ls : List Ln) (w : World) (D : Nat) : Prop := ∃ vu, Blk w D 85 #[.string ⟨⟨t⟩⟩, vh, vl, vu] ∧ UsO (D + 1) w vu (ussA ls)
theorem DrP.below {t : List UInt8} {vh vl : Value} {ls : List Ln} {w w' : World} {D : Nat} (h : DrP t vh vl ls w D) (hb : Below w.heap.size w w') : DrP t vh vl ls w' D := by
  obtain ⟨vu, h1, h2⟩ := h
  exact ⟨vu, h1.below hb h1.lt, h2.below hb⟩
noncomputable def plcode (t : List UInt8) (hy : List (List Nd)) (ls : List Ln) : Int := if lnC ls.length = false then 3 else if allFine t hy ls = false then 5 else 0
set_option maxRecDepth 100000 in
set_option maxHeartbeats 2000000 in
theorem impl_provenLines (t : List UInt8) (hy : List (List Nd)) (ls : List Ln) (vh : Value) (A : Option Addr) (c : Nat) (v : Value) (w : World) (hT : TabS w) (hH : Sl2 cN w vh hy) (hhl : hy.length ≤ 1048576) (hhy : ∀ xs ∈ hy, xs.length ≤ 1048576)
    (hL : SlL w (.slice A ls.length c) ls) (hlx : ∀ l ∈ ls, l.x.length ≤ 1048576) (hv : Sl cH w v [⟨A, ls.length, c⟩]) :
    Calls Tryz.prog 22 #[.string ⟨⟨t⟩⟩, vh, v] w fun e w' => ∃ r, e = .returned (.tuple #[r, .int .i64 (plcode t hy ls)]) ∧ Below w.heap.size w w' ∧
      (plcode t hy ls = 0 → ∃ D, w.heap.size ≤ D ∧ Sl cP w' r [D] ∧ DrP t vh (.slice A ls.length c) ls w' D) := by
  obtain ⟨Av, cv, rfl⟩ := hv.opn
  obtain ⟨Ah, ch, rfl⟩ := hH.opn
  have HC := Lib.hid (slices_ContainsFunc_lists (.slice Av [(⟨A, ls.length, c⟩ : Hd)].length cv) [⟨A, ls.length, c⟩] 43 #[] (fun _ => !lnC ls.length) (fun W => W = w) w (by simp) rfl en_provenLines_1 (fun W hW => by rw [hW]; exact hv)
    (fun W i hi hW => by
      obtain rfl : i = 0 := by simp at hi; omega
      subst hW
      exact (impl_provenLines_1 A ls.length c W).mono fun e w' h => ⟨h.1, h.2.symm⟩))
  simp only [List.length_singleton, List.range_one, List.any_cons, List.any_nil, Bool.or_false] at HC
  have hc := hv.cell (k := 0) (by simp)
  obtain ⟨bq, oq, rfl, hbq, hcq⟩ := hc
  have hq := hcq 0 _ rfl
  simp only [List.getElem_cons_zero, Nat.zero_mul, Nat.add_zero] at hq
  change w.cell? ⟨bq, oq, none⟩ = some (.slice A ls.length c) at hq
  have HFB := Lib.hid (fun (hll : lnC ls.length = true) => impl_firstBad t hy ls (.slice Ah hy.length ch) (.slice A ls.length c) w (w.alloc (.cells #[.string ⟨⟨t⟩⟩, .slice Ah hy.length ch, .slice A ls.length c, .slice none 0 0] 85)) hT (Blk.new w _ _) hH hhl hhy hL (by unfold lnC at hll; simp only [Bool.and_eq_true, decide_eq_true_eq] at hll; exact hll.2) hlx (below_alloc' w _))
  have HB0 := Lib.hid (Below.refl w.heap.size w)
  clear hcq hv hT hH hL hlx hhy
  unfold plcode
  generalize allFine t hy ls = af at *
  generalize lnC ls.length = lc at *
  cases lc with
  | false =>
    go_enter Tryz.func22, Tryz.ntmps22
    go_wp2_with fail
    refine HC.out.mono ?_
    rintro e w1 ⟨rfl, rfl⟩
    go_wp2
    go_ret2
    exact ⟨⟨_, rfl⟩, HB0.out⟩
  | true =>
    have HF := Lib.hid (HFB.out rfl)
    clear HFB
    go_enter Tryz.func22, Tryz.ntmps22
    go_wp2_with fail
    refine HC.out.mono ?_
    rintro e w1 ⟨rfl, rfl⟩
    go_wp2
    go_loopw [8, 16] (fun o i wr => (o = .slice none 0 0 ∧ i = .int .i64 0 ∧ wr = w1) ∨ (i = .int .i64 1 ∧ af = true ∧ Below w1.heap.size w1 wr ∧ ∃ D, w1.heap.size ≤ D ∧ Sl cP wr o [D] ∧ DrP t (.slice Ah hy.length ch) (.slice A ls.length c) ls wr D)) (fun _ i _ => 1 - (intOf i).toNat)
    case atStart => exact .inl ⟨rfl, rfl, rfl⟩
    case round =>
      rcases hrel with ⟨rfl, rfl, rfl⟩ | ⟨rfl, haf, hbr, D, hD, ho, hdr⟩
      · go_wp2_with fail
        refine HF.out.mono ?_
        rintro e w3 ⟨i, rfl, hi, hb3, hg⟩
        cases af with
        | false =>
          have hi0 : ¬ i < 0 := by simpa using hi
          have HB3 := Lib.hid ((below_alloc' wr _).trans hb3)
          clear hi hg hb3
          go_wp2
          go_ret2
          exact ⟨⟨_, rfl⟩, HB3.out⟩
        | true =>
          have hi0 : i < 0 := by simpa using hi
          obtain ⟨vu, hd, hu⟩ := hg rfl
          have HD := Lib.hid hd
          have HU := Lib.hid hu
          have HB3 := Lib.hid ((below_alloc' wr _).trans hb3)
          clear hi hg hb3 hd hu
          go_wp2_with (at_builtin; refine stopHere ?_)
          refine goHere ?_
          refine ap_one (K := cP) w3 ty_ptrs rfl _ _ rfl (B := w3.heap.size) (v := .slice none 0 0) (xs := []) rfl (Ow.nil _ _) wr.heap.size rfl rfl (by simp) (Nat.le_refl _) ?_
          intro v2 w4 ho4 hg4 hb4 hat4
          have HO := Lib.hid ho4.sl
          obtain ⟨A2, c2, rfl⟩ := ho4.opn
          have HDR := Lib.hid (DrP.below ⟨vu, HD.out, HU.out⟩ hb4)
          have HB4 := Lib.hid (HB3.out.trans (hb4.mono HB3.out.size))
          clear ho4 hg4 hb4 hat4
          go_wp2
          go_roundw
          case rel => exact   .inr ⟨by go_num, trivial, HB4.out, _, Nat.le_refl _, HO.out, HDR.out⟩
          case measure => simp [intOf]
      · subst haf
        obtain ⟨A2, c2, rfl⟩ := ho.opn
        have HO := Lib.hid ho
        have HDR := Lib.hid hdr
        have HB3 := Lib.hid hbr
        have HD := Lib.hid hD
        clear ho hdr hbr hD
        go_wp2
        go_ret2
        exact ⟨_, rfl, HB3.out, D, HD.out, HO.out, HDR.out⟩
/- Contracts of the program: the code of a system and hypotheses; is a line too long? -/
open Go.RowKit
set_option linter.unusedVariables false
set_option linter.unusedSimpArgs false
def hycode (t : List UInt8) (hy : List (List Nd)) : Int := if (sysS t).isSome = false then 2 else if hy.all isF = false then 1 else 0
theorem impl_hypothesesCode (t : List UInt8) (hy : List (List Nd)) (vh : Value) (w : World) (hH : Sl2 cN w vh hy) (hhl : hy.length ≤ 1048576) (hhy : ∀ xs ∈ hy, xs.length ≤ 1048576) :
    Calls Tryz.prog 21 #[.string ⟨⟨t⟩⟩, vh] w fun e w' => e = .returned (.int .i64 (hycode t hy)) ∧ Below w.heap.size w w' := by
  obtain ⟨Ah, ch, rfl⟩ := hH.opn
  have HS := Lib.hid (impl_schemesOf t w)
  have HA := Lib.hid (fun W (hb : Below w.heap.size w W) => impl_areFormulas _ hy W (hH.below hb) (by omega) hhy)
  clear hH hhy
  unfold hycode
  generalize (sysS t).isSome = sm at *
  generalize (sysS t).getD [] = sl at *
  generalize hy.all isF = al at *
  go_enter Tryz.func21, Tryz.ntmps21
  go_wp2_with fail
  refine HS.out.mono ?_
  rintro e w1 ⟨r, rfl, ho, hb⟩
  obtain ⟨Ar, cr, rfl⟩ := ho.opn
  have HB := Lib.hid hb
  have HAA := Lib.hid (HA.out w1 hb)
  clear ho hb
  cases sm with
  | false =>
    go_wp2
    go_ret
    first | exact HB.out | exact ⟨rfl, HB.out⟩
  | true =>
    go_wp2_with fail
    refine HAA.out.mono ?_
    rintro e w2 ⟨rfl, hb2⟩
    have HB2 := Lib.hid (HB.out.trans (hb2.mono HB.out.size))
    clear hb2
    cases al <;> (go_wp2; go_ret; first | exact HB2.out | exact ⟨rfl, HB2.out⟩)
theorem impl_DischargeHypothesis_1 (r f s : Int) (A : Option Addr) (n c : Nat) (w : World) :
    Calls Tryz.prog 25 #[.agg #[.int .i64 r, .int .i64 f, .int .i64 s, .slice A n c]] w fun e w' => e = .returned (.bool (decide (40 < n))) ∧ Below w.heap.size w w' := by
  have hb := Lib.hid (below_alloc' w (.cells #[.int .i64 r, .int .i64 f, .int .i64 s, .slice A n c] 46))
  have hk := Blk.new w 46 #[.int .i64 r, .int .i64 f, .int .i64 s, .slice A n c]
  have k3 := hk.cell 3
  have l1 := hk.lt
  clear hk
  have H : Hid (decide ((40 : Int) < n) = decide (40 < n)) := Lib.hid (by rw [decide_eq_decide]; omega)
  go_enter Tryz.func25, Tryz.ntmps25
  go_wp2
  go_ret
  exact ⟨by rw [← H.out]; rfl, hb.out⟩
theorem en_DischargeHypothesis_1 : ∀ (args : Array Value) (w : World), (callFunc 25 args).run Tryz.prog w = .ok (.enter 25 args) w := enters Tryz.func25 (by kernel_rfl) (by kernel_rfl)
/-- is a formula of the lines too long? -/
theorem impl_anyLong (v : Value) (ls : List Ln) (w : World) (hL : SlL w v ls) (hl : ls.length ≤ 1048576) :
    Calls Tryz.prog 24 #[v, .func (.func 25) #[] #[]] w fun e w' => e = .returned (.bool (ls.any fun l => decide (40 < l.x.length))) ∧ Below w.heap.size w w' := by
  have h := slices_ContainsFunc_lines v ls 25 #[] (fun i => decide (40 < (ls.getD i ⟨0, 0, 0, []⟩).x.length)) (fun W => Below w.heap.size w W) w hl (Below.refl _ _) en_DischargeHypothesis_1 (fun W hW => hL.below hW)
    (fun W i hi A c hW hs => by
      rw [List.getD_eq_getElem?_getD, List.getElem?_eq_getElem hi, Array.append_empty]
      exact (impl_DischargeHypothesis_1 _ _ _ A _ c W).mono fun e w' h => ⟨h.1, hW.trans (h.2.mono hW.size)⟩)
  refine h.mono ?_
  rintro e w' ⟨rfl, hb⟩
  refine ⟨?_, hb⟩
  congr 2
  rw [Bool.eq_iff_iff, List.any_eq_true, List.any_eq_true]
  constructor
  · rintro ⟨k, hk, h⟩
    have hk' := List.mem_range.1 hk
    rw [List.getD_eq_getElem?_getD, List.getElem?_eq_getElem hk'] at h
    exact ⟨_, List.getElem_mem hk', h⟩
  · rintro ⟨l, hm, h⟩
    obtain ⟨k, hk, rfl⟩ := List.getElem_of_mem hm
    refine ⟨k, List.mem_range.2 hk, ?_⟩
    rw [List.getD_eq_getElem?_getD, List.getElem?_eq_getElem hk]
    exact h
end Go.Proofs.YtcikenffeekkeaaGreatDoor

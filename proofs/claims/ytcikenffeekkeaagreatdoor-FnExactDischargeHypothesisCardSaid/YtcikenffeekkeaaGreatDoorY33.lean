/- Contracts of the program: the hypotheses on which a line depends are noted. -/
import Derived.Test.YtcikenffeekkeaaGreatDoorY32
namespace Go.Proofs.YtcikenffeekkeaaGreatDoor
open Go.RowKit
set_option linter.unusedVariables false
set_option linter.unusedSimpArgs false
/-- what the first j premises give, behind what the line gives itself -/
def accU (uss : List (List Int)) (l : Ln) (j : Nat) : List Int := (if l.r = 2 then [l.f] else []) ++ ((prmL l).take j).flatMap fun x => uss.getD x.toNat []
theorem accU_end (uss : List (List Int)) (l : Ln) : accU uss l (prmL l).length = usr uss l := by
  unfold accU prmL usr
  rw [List.take_length]
  by_cases h2 : l.r = 2
  · rw [if_pos h2, if_pos h2, if_neg (by omega), if_neg (by omega)]; rfl
  · rw [if_neg h2, if_neg h2]
    by_cases h3 : l.r = 3
    · rw [if_pos h3, if_pos h3]; simp
    · rw [if_neg h3, if_neg h3]
      by_cases h4 : l.r = 4
      · rw [if_pos h4, if_pos h4]; simp
      · rw [if_neg h4, if_neg h4]; rfl
theorem accU_succ (uss : List (List Int)) (l : Ln) (j : Nat) (h : j < (prmL l).length) : accU uss l (j + 1) = accU uss l j ++ uss.getD ((prmL l)[j]).toNat [] := by
  unfold accU
  rw [List.take_succ_eq_append_getElem h, List.flatMap_append, ← List.append_assoc]
  simp
theorem prmL_len (l : Ln) : (prmL l).length ≤ 2 := by
  unfold prmL
  split
  · simp
  · split <;> simp
theorem accU_len (ls : List Ln) (k : Nat) (hk : k ≤ ls.length) (l : Ln) (j : Nat) : (accU (ussA (ls.take k)) l j).length ≤ 1 + k * 2 := by
  have h1 : ∀ P : List Int, (P.flatMap fun x => (ussA (ls.take k)).getD x.toNat []).length ≤ k * P.length := by
    intro P
    induction P with
    | nil => simp
    | cons x P ih =>
      have := ussA_len ls k hk x.toNat
      rw [List.flatMap_cons, List.length_append, List.length_cons, Nat.mul_add, Nat.mul_one]
      omega
  have h2 := h1 ((prmL l).take j)
  have h3 := prmL_len l
  have h4 : ((prmL l).take j).length ≤ 2 := by rw [List.length_take]; omega
  have h5 : k * ((prmL l).take j).length ≤ k * 2 := Nat.mul_le_mul_left _ h4
  unfold accU
  rw [List.length_append]
  split
  · simp only [List.length_cons, List.length_nil]; omega
  · simp only [List.length_nil]; omega
theorem ty_ints2 : Ty Tryz.prog 67 54 (.slice none 0 0) 1 24 := Ty.mk' Tryz.underlying67 (by kernel_rfl) rfl (by decide)
set_option maxRecDepth 100000 in
set_option maxHeartbeats 2000000 in
theorem impl_note (D : Nat) (t : List UInt8) (ls : List Ln) (k : Nat) (hk : k < ls.length) (hkk : k ≤ 200) (vh vl vu v : Value) (w : World) (hD : Blk w D 85 #[.string ⟨⟨t⟩⟩, vh, vl, vu]) (hU : UsO (D + 1) w vu (ussA (ls.take k))) (hin : ∀ x ∈ prmL (ls[k]'hk), ∃ i : Nat, x = i ∧ i < k) :
    Calls Tryz.prog 66 #[.pointer (some ⟨D, 0, none⟩), .agg #[.int .i64 (ls[k]'hk).r, .int .i64 (ls[k]'hk).f, .int .i64 (ls[k]'hk).s, v]] w fun e w' => e = .returned (.tuple #[]) ∧ ∃ vu', Blk w' D 85 #[.string ⟨⟨t⟩⟩, vh, vl, vu'] ∧ UsO (D + 1) w' vu' (ussA (ls.take (k + 1))) ∧ Below D w w' := by
  have hsucc := ussA_succ ls k hk
  have hul := (ussA_inv ls k (by omega)).1
  have hal := accU_len ls k (by omega) (ls[k]'hk)
  have hae := accU_end (ussA (ls.take k)) (ls[k]'hk)
  have has := accU_succ (ussA (ls.take k)) (ls[k]'hk)
  have hpl := prmL_len (ls[k]'hk)
  obtain ⟨l, hl⟩ : ∃ l, ls[k]'hk = l := ⟨_, rfl⟩
  rw [hl] at hsucc hal hae has hpl hin ⊢
  clear hl
  generalize ussA (ls.take (k + 1)) = uss' at *
  generalize ussA (ls.take k) = uss at *
  obtain ⟨Au, cu, rfl⟩ := hU.opn
  rw [hul] at hU hD
  have hb0 := below_alloc' w (.cells #[.int .i64 l.r, .int .i64 l.f, .int .i64 l.s, v] 46)
  have HK := Lib.hid (Blk.new w 46 #[.int .i64 l.r, .int .i64 l.f, .int .i64 l.s, v])
  have HPM := Lib.hid (fun W => impl_premises l v W)
  have HD := Lib.hid (hD.below hb0 hD.lt)
  have HU := Lib.hid (hU.below hb0)
  have HDL := Lib.hid hD.lt
  have HB := Lib.hid hb0
  have HSU := Lib.hid hsucc
  have HAL := Lib.hid hal
  have HAE := Lib.hid hae
  have HAS := Lib.hid has
  have HIN := Lib.hid hin
  have HUL := Lib.hid hul
  have H2 : Hid (∀ q, q = (if l.r = 2 then [l.f] else []) → q = accU uss l 0) := Lib.hid (fun q h => by rw [h]; unfold accU; simp)
  have hz0 := hb0.size
  clear hb0 hD hU hsucc hal hae has hin hul
  have d3 := HD.out.cell 3
  have ld := HD.out.lt
  have k0 := HK.out.cell 0
  have k1 := HK.out.cell 1
  have k2 := HK.out.cell 2
  have k3 := HK.out.cell 3
  have l1 := HK.out.lt
  go_enter Tryz.func66, Tryz.ntmps66
  go_upto_region 1 with fail
  obtain ⟨w1, hw1⟩ : ∃ W, W = World.alloc w (.cells #[.int .i64 l.r, .int .i64 l.f, .int .i64 l.s, v] 46) := ⟨_, rfl⟩
  rw [← hw1] at HK HD HU HB ld k0 k1 k2 k3 l1 d3 hz0 ⊢
  clear hw1
  by_cases hr : l.r = 2
  · have hr2 : (l.r == 2) = true := by simpa using hr
    have HA0 : Hid ([l.f] = accU uss l 0) := Lib.hid (H2.out _ (by rw [if_pos hr]))
    clear hr H2
    go_wp2_with (at_builtin; refine stopHere ?_)
    refine goHere ?_
    refine ap_one (K := cI) w1 ty_int64 rfl _ _ rfl (B := w1.heap.size) (v := .slice none 0 0) (xs := []) rfl (Ow.nil _ _) l.f rfl rfl (by simp) (Nat.le_refl _) ?_
    intro v2 w2 ho2 hg2 hb2 hat2
    rw [List.nil_append, HA0.out] at ho2
    have HO2 := Lib.hid ho2
    have HB2 := Lib.hid hb2
    obtain ⟨Aq, cq, rfl⟩ := ho2.opn
    clear ho2 hg2 hb2 hat2 k0 k1 k2 k3 l1 d3 ld
    have HK2 := Lib.hid (HK.out.below HB2.out HK.out.lt)
    have k0 := HK2.out.cell 0
    have k1 := HK2.out.cell 1
    have k2 := HK2.out.cell 2
    have k3 := HK2.out.cell 3
    have l1 := HK2.out.lt
    go_wp2_with fail
    refine (HPM.out w2).mono ?_
    rintro e w3 ⟨rp, rfl, hop, hb⟩
    obtain ⟨Ap, cp, rfl⟩ := hop.opn
    have HPL := Lib.hid hop.sl
    have HB3 := Lib.hid (HB2.out.trans (hb.mono HB2.out.size))
    have HO3 := Lib.hid (HO2.out.below hb)
    have HSP : Hid (∀ g, (Value.slice Ap (prmL l).length cp).ownBlock = some g → g < w3.heap.size ∧ (Value.slice Aq (accU uss l 0).length cq).ownBlock ≠ some g) := Lib.hid fun g hg => ⟨(hop.block g hg).2, fun e => by
      have h1 := (HO2.out.block g e).2
      have h2 := (hop.block g hg).1
      omega⟩
    clear hop hb k0 k1 k2 k3 l1 HK2 HO2
    go_wp2
    go_loopw [4, 18] (fun q i wr => ∃ j : Nat, j ≤ (prmL l).length ∧ i = .int .i64 j ∧ Ow cI 2 w1.heap.size wr q (accU uss l j) ∧ Sl cI wr (.slice Ap (prmL l).length cp) (prmL l) ∧ (∀ g, (Value.slice Ap (prmL l).length cp).ownBlock = some g → g < wr.heap.size ∧ q.ownBlock ≠ some g) ∧ Below w1.heap.size w1 wr) (fun _ i _ => (prmL l).length - (intOf i).toNat)
    case atStart => exact ⟨0, Nat.zero_le _, rfl, HO3.out, HPL.out, HSP.out, HB3.out⟩
    case round =>
      clear HO3 HPL HSP HB3 HB2
      obtain ⟨j, hj, rfl, ho, hp, hsp, hbr⟩ := hrel
      obtain ⟨Aq, cq, rfl⟩ := ho.opn
      have hla := HAL.out j
      have HO := Lib.hid ho
      have HP := Lib.hid hp
      have HSPr := Lib.hid hsp
      have HDr := Lib.hid (HD.out.below hbr HD.out.lt)
      have HUr := Lib.hid (HU.out.below hbr)
      have HBr := Lib.hid hbr
      have hzr := hbr.size
      clear ho hp hsp hbr
      by_cases hlt : j < (prmL l).length
      · obtain ⟨bp, op, rfl, hbp, hcp⟩ := HP.out.atI hlt
        obtain ⟨i, hi, hik⟩ := HIN.out _ (List.getElem_mem hlt)
        have HSj := Lib.hid (HAS.out j hlt)
        rw [hi] at hcp HSj
        clear hi
        have hiu : i < uss.length := by rw [HUL.out]; exact hik
        obtain ⟨bu, ou, Ai, ci, e1, hbu, hcu, hsu⟩ := HUr.out.at_ hiu
        subst e1
        have hgd : uss.getD ((i : Nat) : Int).toNat [] = uss[i]'hiu := by rw [Int.toNat_natCast, List.getD_eq_getElem?_getD, List.getElem?_eq_getElem hiu]; rfl
        rw [hgd] at HSj
        have hul2 : (uss[i]'hiu).length ≤ 1000 := by
          have h1 := HAL.out (j + 1)
          rw [HSj.out, List.length_append] at h1
          omega
        generalize uss[i]'hiu = us at *
        have HSU2 := Lib.hid hsu
        have d3 := HDr.out.cell 3
        have ld := HDr.out.lt
        clear hsu hgd hiu
        go_wp2_with (at_builtin; refine stopHere ?_)
        refine goHere ?_
        refine ap_sl (K := cI) wr ty_int64 rfl _ _ rfl rfl rfl (B := w1.heap.size) (v := .slice Aq (accU uss l j).length cq) (xs := accU uss l j) (news := us) HO.out HSU2.out (by omega) hzr ?_
        intro v4 w4 ho4 hg4 hb4 hat4
        rw [← HSj.out] at ho4
        have HO4 := Lib.hid ho4
        have hg4z := hg4.size
        have HP4 : Hid (Sl cI w4 (.slice (some ⟨bp, op, none⟩) (prmL l).length cp) (prmL l)) := Lib.hid (HP.out.grown hg4 (.inr fun e => (HSPr.out bp rfl).2 e.symm))
        have HSP4 : Hid (∀ g, (Value.slice (some ⟨bp, op, none⟩) (prmL l).length cp).ownBlock = some g → g < w4.heap.size ∧ v4.ownBlock ≠ some g) := Lib.hid fun g hg => by
          obtain ⟨h1, h2⟩ := HSPr.out g hg
          refine ⟨by omega, fun e => ?_⟩
          rcases hat4 with e2 | e2
          · exact h2 (e2 ▸ e)
          · rw [e2] at e; injection e with e; omega
        have HB4 := Lib.hid (HBr.out.trans hb4)
        clear ho4 hg4 hb4 hat4 d3 ld hcp hcu
        go_wp2
        go_roundw
        case rel => exact ⟨j + 1, by omega, by go_num, HO4.out, HP4.out, HSP4.out, HB4.out⟩
        case measure => simp [intOf]; omega
      · obtain rfl : j = (prmL l).length := by omega
        rw [HAE.out] at HO hla ⊢
        clear HP HSPr
        -- sort, compact, append, store
        go_wp2_with fail
        refine (slices_Sort _ (usr uss l) w1.heap.size wr HO.out (by omega)).mono ?_
        rintro e w4 ⟨rfl, ho4, hb4⟩
        have HO4 := Lib.hid ho4
        have HB4 := Lib.hid (HBr.out.trans hb4)
        clear ho4 hb4
        have HD4 := Lib.hid (HD.out.below HB4.out HD.out.lt)
        have HU4 := Lib.hid HU.out
        have d3 := HD4.out.cell 3
        have ld := HD4.out.lt
        have hD1 : D + 1 ≤ w1.heap.size := HD.out.lt
        have hml : ((usr uss l).mergeSort fun x y => decide (x ≤ y)).length = (usr uss l).length := List.length_mergeSort ..
        have HCo := Lib.hid (fun W (hW : Below w4.heap.size w4 W) => slices_Compact (.slice Aq (usr uss l).length cq) _ w1.heap.size W (HO4.out.below hW) (by rw [hml]; omega))
        have HUN : Hid (Lib.compactUpTo ((usr uss l).mergeSort fun x y => decide (x ≤ y)).toArray ((usr uss l).mergeSort fun x y => decide (x ≤ y)).length = usn (usr uss l)) := Lib.hid rfl
        rw [HUN.out] at HCo
        clear hml HO hla
        go_upto_region 10 with fail
        refine wp_region_sched (fun X => X.cell? ⟨D, 3, none⟩ = some (.slice Au k cu)) 9 [0, 1, 2, 3, 4, 5] [0, 1, 2, 3, 4, 5, 6, 7, 8] (by kernel_rfl) (by kernel_rfl) d3 ?_
        repeat
          apply wpSched_q rfl rfl
          case h =>
            intro w' hI K hK
            have d3' := hI
            simp only [quietV, stillV]
            go_simp
            exact hK
          go_simp
        have hb5 : Below w4.heap.size w4 w4.drew := (Below.refl _ _).drew
        refine wpSched_r rfl rfl ?_ d3
        intro K hK hI
        go_simp
        refine (HCo.out _ hb5).mono ?_
        rintro e w5 ⟨u5, rfl, ho5, hb6⟩
        obtain ⟨A5, c5, rfl⟩ := ho5.opn
        have hB5 : Below w1.heap.size w1 w5 := (HB4.out.trans (hb5.mono HB4.out.size)).trans hb6
        have hd5 := HD.out.below hB5 HD.out.lt
        refine hK _ _ (hd5.cell 3) ?_
        clear hK K hI
        refine wpSched_r rfl rfl ?_ (hd5.cell 3)
        intro K hK hI
        go_simp
        have hd6 : (w5.alloc (.cells #[.slice A5 (usn (usr uss l)).length c5] 54)).cell? ⟨D, 3, none⟩ = some (.slice Au k cu) := ((below_alloc' w5 _).cell (p := ⟨D, 3, none⟩) hd5.lt).trans (hd5.cell 3)
        refine hK _ _ hd6 ?_
        clear hK K hI
        obtain ⟨hs, hO5, hs5, hpush⟩ := HU4.out.push hD1 hB5 ho5
        have hsk : hs.length = k := by rw [hs5]; exact HUL.out
        have hz5 : D + 1 ≤ w5.heap.size := by have := hB5.size; omega
        refine wpSched_r rfl rfl ?_ hd6
        intro K hK hI
        refine step_oneS (K := cH) w5 ty_ints2 rfl _ _ rfl (B := D + 1) (v := .slice Au k cu) (xs := hs) (by simp [Act.eval, Act.put]; done) hO5 (⟨A5, (usn (usr uss l)).length, c5⟩ : Hd) rfl (by simp [Act.eval, Act.put]; done) (by rw [hsk]; omega) hz5 ?_
        intro v9 w9 ho9 hg9 hb9 hat9
        have hU9 := hpush w9 v9 _ (World.grownBy_alloc _ _ none) (by simp) ho9 hg9 hat9
        have hd9 := hd5.below hb9 (Nat.lt_succ_self D)
        obtain ⟨A9, c9, rfl⟩ := ho9.opn
        generalize (hs ++ [(⟨A5, (usn (usr uss l)).length, c5⟩ : Hd)]).length = n9 at *
        refine hK _ _ (hd9.cell 3) ?_
        clear hK K hI
        have HU9 := Lib.hid hU9
        have HD9 := Lib.hid hd9
        have HB9 : Hid (Below D w w9) := Lib.hid ((HB.out.mono (by have := HDL.out; omega)).trans ((hB5.mono (by omega)).trans (hb9.mono (by omega))))
        clear hU9 hd9 ho9 hg9 hb9 hat9 hpush hs5 hO5 ho5 hb6 hb5 hd6 hd5 hB5 d3 ld
        refine wpSched_nil ?_
        try simp only [List.drop_succ_cons, List.drop_zero, List.drop_nil]
        have e0 := HD9.out.cell 3
        have e1 := HD9.out.frozen 3
        have e2 := HD9.out.lt
        go_wp2
        go_end0
        refine ⟨rfl, .slice A9 n9 c9, (HD9.out.set_ 3 (.slice A9 n9 c9)), ?_, HB9.out.setCell (p := ⟨D, 3, none⟩) (Nat.le_refl _) (.slice A9 n9 c9)⟩
        rw [HSU.out]
        exact HU9.out.far (p := ⟨D, 3, none⟩) (Nat.lt_succ_self D) (.slice A9 n9 c9)
  · have hr2 : (l.r == 2) = false := by simpa using hr
    have HA0 : Hid ([] = accU uss l 0) := Lib.hid (H2.out _ (by rw [if_neg hr]))
    have HO2 : Hid (Ow cI 2 w1.heap.size w1 (.slice none 0 0) (accU uss l 0)) := Lib.hid (by rw [← HA0.out]; exact Ow.nil _ _)
    have HB2 : Hid (Below w1.heap.size w1 w1) := Lib.hid (Below.refl _ _)
    clear hr H2 k0 k1 k2 k3 l1 d3 ld
    have HK2 := Lib.hid (HK.out.below HB2.out HK.out.lt)
    have k0 := HK2.out.cell 0
    have k1 := HK2.out.cell 1
    have k2 := HK2.out.cell 2
    have k3 := HK2.out.cell 3
    have l1 := HK2.out.lt
    go_wp2_with fail
    refine (HPM.out w1).mono ?_
    rintro e w3 ⟨rp, rfl, hop, hb⟩
    obtain ⟨Ap, cp, rfl⟩ := hop.opn
    have HPL := Lib.hid hop.sl
    have HB3 := Lib.hid (HB2.out.trans (hb.mono HB2.out.size))
    have HO3 := Lib.hid (HO2.out.below hb)
    have HSP : Hid (∀ g, (Value.slice Ap (prmL l).length cp).ownBlock = some g → g < w3.heap.size ∧ (Value.slice none 0 0).ownBlock ≠ some g) := Lib.hid fun g hg => ⟨(hop.block g hg).2, fun e => by
      have h1 := (HO2.out.block g e).2
      have h2 := (hop.block g hg).1
      omega⟩
    clear hop hb k0 k1 k2 k3 l1 HK2 HO2
    go_wp2
    go_loopw [4, 18] (fun q i wr => ∃ j : Nat, j ≤ (prmL l).length ∧ i = .int .i64 j ∧ Ow cI 2 w1.heap.size wr q (accU uss l j) ∧ Sl cI wr (.slice Ap (prmL l).length cp) (prmL l) ∧ (∀ g, (Value.slice Ap (prmL l).length cp).ownBlock = some g → g < wr.heap.size ∧ q.ownBlock ≠ some g) ∧ Below w1.heap.size w1 wr) (fun _ i _ => (prmL l).length - (intOf i).toNat)
    case atStart => exact ⟨0, Nat.zero_le _, rfl, HO3.out, HPL.out, HSP.out, HB3.out⟩
    case round =>
      clear HO3 HPL HSP HB3 HB2
      obtain ⟨j, hj, rfl, ho, hp, hsp, hbr⟩ := hrel
      obtain ⟨Aq, cq, rfl⟩ := ho.opn
      have hla := HAL.out j
      have HO := Lib.hid ho
      have HP := Lib.hid hp
      have HSPr := Lib.hid hsp
      have HDr := Lib.hid (HD.out.below hbr HD.out.lt)
      have HUr := Lib.hid (HU.out.below hbr)
      have HBr := Lib.hid hbr
      have hzr := hbr.size
      clear ho hp hsp hbr
      by_cases hlt : j < (prmL l).length
      · obtain ⟨bp, op, rfl, hbp, hcp⟩ := HP.out.atI hlt
        obtain ⟨i, hi, hik⟩ := HIN.out _ (List.getElem_mem hlt)
        have HSj := Lib.hid (HAS.out j hlt)
        rw [hi] at hcp HSj
        clear hi
        have hiu : i < uss.length := by rw [HUL.out]; exact hik
        obtain ⟨bu, ou, Ai, ci, e1, hbu, hcu, hsu⟩ := HUr.out.at_ hiu
        subst e1
        have hgd : uss.getD ((i : Nat) : Int).toNat [] = uss[i]'hiu := by rw [Int.toNat_natCast, List.getD_eq_getElem?_getD, List.getElem?_eq_getElem hiu]; rfl
        rw [hgd] at HSj
        have hul2 : (uss[i]'hiu).length ≤ 1000 := by
          have h1 := HAL.out (j + 1)
          rw [HSj.out, List.length_append] at h1
          omega
        generalize uss[i]'hiu = us at *
        have HSU2 := Lib.hid hsu
        have d3 := HDr.out.cell 3
        have ld := HDr.out.lt
        clear hsu hgd hiu
        go_wp2_with (at_builtin; refine stopHere ?_)
        refine goHere ?_
        refine ap_sl (K := cI) wr ty_int64 rfl _ _ rfl rfl rfl (B := w1.heap.size) (v := .slice Aq (accU uss l j).length cq) (xs := accU uss l j) (news := us) HO.out HSU2.out (by omega) hzr ?_
        intro v4 w4 ho4 hg4 hb4 hat4
        rw [← HSj.out] at ho4
        have HO4 := Lib.hid ho4
        have hg4z := hg4.size
        have HP4 : Hid (Sl cI w4 (.slice (some ⟨bp, op, none⟩) (prmL l).length cp) (prmL l)) := Lib.hid (HP.out.grown hg4 (.inr fun e => (HSPr.out bp rfl).2 e.symm))
        have HSP4 : Hid (∀ g, (Value.slice (some ⟨bp, op, none⟩) (prmL l).length cp).ownBlock = some g → g < w4.heap.size ∧ v4.ownBlock ≠ some g) := Lib.hid fun g hg => by
          obtain ⟨h1, h2⟩ := HSPr.out g hg
          refine ⟨by omega, fun e => ?_⟩
          rcases hat4 with e2 | e2
          · exact h2 (e2 ▸ e)
          · rw [e2] at e; injection e with e; omega
        have HB4 := Lib.hid (HBr.out.trans hb4)
        clear ho4 hg4 hb4 hat4 d3 ld hcp hcu
        go_wp2
        go_roundw
        case rel => exact ⟨j + 1, by omega, by go_num, HO4.out, HP4.out, HSP4.out, HB4.out⟩
        case measure => simp [intOf]; omega
      · obtain rfl : j = (prmL l).length := by omega
        rw [HAE.out] at HO hla ⊢
        clear HP HSPr
        -- sort, compact, append, store
        go_wp2_with fail
        refine (slices_Sort _ (usr uss l) w1.heap.size wr HO.out (by omega)).mono ?_
        rintro e w4 ⟨rfl, ho4, hb4⟩
        have HO4 := Lib.hid ho4
        have HB4 := Lib.hid (HBr.out.trans hb4)
        clear ho4 hb4
        have HD4 := Lib.hid (HD.out.below HB4.out HD.out.lt)
        have HU4 := Lib.hid HU.out
        have d3 := HD4.out.cell 3
        have ld := HD4.out.lt
        have hD1 : D + 1 ≤ w1.heap.size := HD.out.lt
        have hml : ((usr uss l).mergeSort fun x y => decide (x ≤ y)).length = (usr uss l).length := List.length_mergeSort ..
        have HCo := Lib.hid (fun W (hW : Below w4.heap.size w4 W) => slices_Compact (.slice Aq (usr uss l).length cq) _ w1.heap.size W (HO4.out.below hW) (by rw [hml]; omega))
        have HUN : Hid (Lib.compactUpTo ((usr uss l).mergeSort fun x y => decide (x ≤ y)).toArray ((usr uss l).mergeSort fun x y => decide (x ≤ y)).length = usn (usr uss l)) := Lib.hid rfl
        rw [HUN.out] at HCo
        clear hml HO hla
        go_upto_region 10 with fail
        refine wp_region_sched (fun X => X.cell? ⟨D, 3, none⟩ = some (.slice Au k cu)) 9 [0, 1, 2, 3, 4, 5] [0, 1, 2, 3, 4, 5, 6, 7, 8] (by kernel_rfl) (by kernel_rfl) d3 ?_
        repeat
          apply wpSched_q rfl rfl
          case h =>
            intro w' hI K hK
            have d3' := hI
            simp only [quietV, stillV]
            go_simp
            exact hK
          go_simp
        have hb5 : Below w4.heap.size w4 w4.drew := (Below.refl _ _).drew
        refine wpSched_r rfl rfl ?_ d3
        intro K hK hI
        go_simp
        refine (HCo.out _ hb5).mono ?_
        rintro e w5 ⟨u5, rfl, ho5, hb6⟩
        obtain ⟨A5, c5, rfl⟩ := ho5.opn
        have hB5 : Below w1.heap.size w1 w5 := (HB4.out.trans (hb5.mono HB4.out.size)).trans hb6
        have hd5 := HD.out.below hB5 HD.out.lt
        refine hK _ _ (hd5.cell 3) ?_
        clear hK K hI
        refine wpSched_r rfl rfl ?_ (hd5.cell 3)
        intro K hK hI
        go_simp
        have hd6 : (w5.alloc (.cells #[.slice A5 (usn (usr uss l)).length c5] 54)).cell? ⟨D, 3, none⟩ = some (.slice Au k cu) := ((below_alloc' w5 _).cell (p := ⟨D, 3, none⟩) hd5.lt).trans (hd5.cell 3)
        refine hK _ _ hd6 ?_
        clear hK K hI
        obtain ⟨hs, hO5, hs5, hpush⟩ := HU4.out.push hD1 hB5 ho5
        have hsk : hs.length = k := by rw [hs5]; exact HUL.out
        have hz5 : D + 1 ≤ w5.heap.size := by have := hB5.size; omega
        refine wpSched_r rfl rfl ?_ hd6
        intro K hK hI
        refine step_oneS (K := cH) w5 ty_ints2 rfl _ _ rfl (B := D + 1) (v := .slice Au k cu) (xs := hs) (by simp [Act.eval, Act.put]; done) hO5 (⟨A5, (usn (usr uss l)).length, c5⟩ : Hd) rfl (by simp [Act.eval, Act.put]; done) (by rw [hsk]; omega) hz5 ?_
        intro v9 w9 ho9 hg9 hb9 hat9
        have hU9 := hpush w9 v9 _ (World.grownBy_alloc _ _ none) (by simp) ho9 hg9 hat9
        have hd9 := hd5.below hb9 (Nat.lt_succ_self D)
        obtain ⟨A9, c9, rfl⟩ := ho9.opn
        generalize (hs ++ [(⟨A5, (usn (usr uss l)).length, c5⟩ : Hd)]).length = n9 at *
        refine hK _ _ (hd9.cell 3) ?_
        clear hK K hI
        have HU9 := Lib.hid hU9
        have HD9 := Lib.hid hd9
        have HB9 : Hid (Below D w w9) := Lib.hid ((HB.out.mono (by have := HDL.out; omega)).trans ((hB5.mono (by omega)).trans (hb9.mono (by omega))))
        clear hU9 hd9 ho9 hg9 hb9 hat9 hpush hs5 hO5 ho5 hb6 hb5 hd6 hd5 hB5 d3 ld
        refine wpSched_nil ?_
        try simp only [List.drop_succ_cons, List.drop_zero, List.drop_nil]
        have e0 := HD9.out.cell 3
        have e1 := HD9.out.frozen 3
        have e2 := HD9.out.lt
        go_wp2
        go_end0
        refine ⟨rfl, .slice A9 n9 c9, (HD9.out.set_ 3 (.slice A9 n9 c9)), ?_, HB9.out.setCell (p := ⟨D, 3, none⟩) (Nat.le_refl _) (.slice A9 n9 c9)⟩
        rw [HSU.out]
        exact HU9.out.far (p := ⟨D, 3, none⟩) (Nat.lt_succ_self D) (.slice A9 n9 c9)
end Go.Proofs.YtcikenffeekkeaaGreatDoor

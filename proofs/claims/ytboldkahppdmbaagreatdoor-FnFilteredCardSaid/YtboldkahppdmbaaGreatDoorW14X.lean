/- The walk of FnFiltered, written by program (gen14X.py). -/
import Derived.Test.YtboldkahppdmbaaGreatDoorJ02Z
import Derived.Test.YtboldkahppdmbaaGreatDoorJ14Z
import Derived.Test.YtboldkahppdmbaaGreatDoorJ14F
import Derived.Test.YtboldkahppdmbaaGreatDoor06u
import Derived.Test.YtboldkahppdmbaaGreatDoorLK
namespace Go.Proofs.YtboldkahppdmbaaGreatDoor
open Go.RowKit
set_option linter.unusedVariables false
set_option linter.unusedSimpArgs false
theorem Bk.new1 (w : World) (cs : Array Value) (e : TypeId) (o : Obj) : Bk ((w.alloc (.cells cs e)).alloc o) w.heap.size cs := (Bk.new w cs e).alloc o
theorem Bk.new2 (w : World) (o : Obj) (cs : Array Value) (e : TypeId) : Bk ((w.alloc o).alloc (.cells cs e)) (w.heap.size + 1) cs := by
  have h := Bk.new (w.alloc o) cs e
  rwa [size_alloc' w o] at h
theorem fmv_mdn {ns us gs : List Nat} {f : Fm} (h1 : MdN ns us) (hg : RelN gs) (h : isf ns us f gs = true) : MdN gs (fmv ns us f) := by
  have hgl : gs.length = acn ns us f := by
    unfold isf at h
    rw [Bool.and_eq_true, decide_eq_true_eq] at h
    exact h.1
  refine ⟨hg, vset_length _ _ _, fun x hx => ?_⟩
  rw [hgl]
  exact vset_lt (fun v => msk_lt _ _) _ x hx
theorem mkN_okX {n m : Nat} (hn : n ≤ 8) (hm : m < 2 ^ n) : mkOk n (m : Int) = true := by
  rw [mkOk_small (by omega)]
  refine inR_true (Int.natCast_nonneg _) ?_
  rw [Int.toNat_natCast, full_cast (by omega)]
  exact Int.ofNat_le.2 (by omega)
theorem mdN_okX {ns us : List Nat} (h : MdN ns us) : mdOk ns.length (li ns) (li us) = true := by
  have h1 := h.r.1
  have hf : frOk ns.length (li ns) = true := by
    unfold frOk
    rw [inR_true (by omega) (by omega), Bool.true_and, li_length, decide_eq_true rfl, Bool.true_and]
    unfold relOk
    rw [List.all_eq_true]
    intro m hm
    unfold li at hm
    obtain ⟨a, ha, rfl⟩ := List.mem_map.1 hm
    rw [li_length]
    exact mkN_okX h1 (h.r.2 a ha)
  unfold mdOk
  rw [hf, li_length, h.l, decide_eq_true rfl, Bool.true_and, Bool.true_and, List.all_eq_true]
  intro m hm
  unfold li at hm
  obtain ⟨a, ha, rfl⟩ := List.mem_map.1 hm
  exact mkN_okX h1 (h.b a ha)
set_option maxHeartbeats 8000000 in
set_option maxRecDepth 100000 in
theorem final_Filtered (v : Value) (xs : List (Fin 256)) (w : World) (h : Sl cY w v xs) :
    Calls Tryz.prog 3 #[v] w fun e w' => e = .returned (.bool true) ∧ Below w.heap.size w w' := by
  have A : Hid (Below w.heap.size w w) := Lib.hid (Below.refl _ _)
  go_enter Tryz.func3, Tryz.ntmps3
  replace h := Lib.hid h
  by_cases hbig : 4096 < xs.length
  · have HC := Lib.hid (decide_eq_true hbig ▸ laws_big v xs w h.out)
    clear hbig
    go_wp2_with fail
    refine HC.out.mono ?_
    rintro e w1 ⟨rfl, rfl⟩
    go_wp2
    go_ret
    exact ⟨rfl, A.out⟩
  · have HC := Lib.hid (decide_eq_false hbig ▸ laws_big v xs w h.out)
    have HD := Lib.hid (spec_DrawFiltrationModel v xs w h.out (by omega))
    clear hbig
    go_wp2_with fail
    refine HC.out.mono ?_
    rintro e w1 ⟨rfl, rfl⟩
    clear HC h
    go_wp2_with fail
    refine (HD.out).mono ?_
    rintro e w1 ⟨n, k, u1, u2, u3, u4, L1, L2, L3, L4, rfl, hL1, hL2, hL3, hL4, s1, s2, s3, s4, hb⟩
    replace A := Lib.hid (bthen A.out hb)
    clear hb
    clear HD
    obtain ⟨A1, c1, rfl⟩ := s1.opn
    obtain ⟨A2, c2, rfl⟩ := s2.opn
    obtain ⟨A3, c3, rfl⟩ := s3.opn
    obtain ⟨A4, c4, rfl⟩ := s4.opn
    by_cases hmd : mdOk n L1 L2 = true ∧ isF L3 = true
    · obtain ⟨hmk, hfk⟩ := hmd
      obtain ⟨ns, us, rfl, rfl, rfl, hr, hu6, hus⟩ := mdOk_iff hmk
      obtain ⟨f, hok, rfl, hlf⟩ := (isF_iff _).1 hfk
      have h1 : MdN ns us := ⟨hr, hu6, hus⟩
      have hn8 := hr.1
      have E2 : (li us).length = 6 := by rw [li_length, hu6]
      rw [li_length] at s1
      rw [E2] at s2
      rw [li_length, E2]
      clear E2 hL1 hL2 hL3
      have HM : Hid (Mdl w1 (.slice A1 ns.length c1) (.slice A2 6 c2) ns us) := Lib.hid ⟨s1, s2⟩
      have S3 := Lib.hid s3
      have S4 := Lib.hid s4
      have HAI := Lib.hid (fun W a b => impl_AlikeClasses_ok ns us f A1 A2 c1 c2 (.slice A3 (enc f).length c3) W a h1 b hok hlf hmk hfk)
      have HAS := Lib.hid (fun W a b => spec_AlikeClasses_ok ns us f A1 A2 c1 c2 (.slice A3 (enc f).length c3) W a h1 b hok hlf hmk hfk)
      cases hfr : frOk k L4
      · have hfc : fcode (ns.length : Int) (li ns) (li us) (enc f) = 0 := by unfold fcode; simp [hmk, hfk]
        have HFI := Lib.hid (fun W a b d e => impl_FiltrationModel_bad (ns.length : Int) k (.slice A1 ns.length c1) (.slice A2 6 c2) (.slice A3 (enc f).length c3) (.slice A4 L4.length c4) (li ns) (li us) L4 (enc f) W a b d e (by rw [li_length]; omega) (by rw [li_length]; omega) (by omega) (by omega) (.inr ⟨hfc, hfr⟩))
        have HFS := Lib.hid (fun W a b d => spec_FiltrationModel_bad2 ns us f A1 A2 c1 c2 (.slice A3 (enc f).length c3) (.slice A4 L4.length c4) k L4 W a h1 b hok hlf hmk hfk d (by omega) hfr)
        clear s1 s2 s3 s4 h1 hr hu6 hus hok hlf hmk hfk hfc hfr
        go_upto_region 4 with fail
        have hb := bthen (below_alloc' w1 (.cells #[.int .i64 (ns.length : Int), .slice A1 ns.length c1, .slice A2 6 c2] 28)) (below_alloc' (World.alloc w1 (.cells #[.int .i64 (ns.length : Int), .slice A1 ns.length c1, .slice A2 6 c2] 28)) (.cells #[.int .i64 k, .slice A4 L4.length c4] 26))
        have T3 := Lib.hid (Bk.new1 w1 #[.int .i64 (ns.length : Int), .slice A1 ns.length c1, .slice A2 6 c2] 28 (.cells #[.int .i64 k, .slice A4 L4.length c4] 26))
        have T5 := Lib.hid (Bk.new2 w1 (.cells #[.int .i64 (ns.length : Int), .slice A1 ns.length c1, .slice A2 6 c2] 28) #[.int .i64 k, .slice A4 L4.length c4] 26)
        replace HM := Lib.hid (HM.out.below hb)
        replace S3 := Lib.hid (S3.out.below hb)
        replace S4 := Lib.hid (S4.out.below hb)
        replace A := Lib.hid (bthen A.out hb)
        clear hb
        generalize World.alloc (World.alloc w1 _) _ = w2 at *
        have T3s := T3.out.1
        have T3c := T3.out.2
        have T5s := T5.out.1
        have T5c := T5.out.2
        go_wp2_with fail
        clear T3s T3c T5s T5c
        refine (HFI.out _ HM.out.a HM.out.u S3.out S4.out).mono ?_
        rintro e w3 ⟨rfl, hb⟩
        replace HM := Lib.hid (HM.out.below hb)
        replace S3 := Lib.hid (S3.out.below hb)
        replace S4 := Lib.hid (S4.out.below hb)
        replace T3 := Lib.hid (T3.out.below hb)
        replace T5 := Lib.hid (T5.out.below hb)
        replace A := Lib.hid (bthen A.out hb)
        clear hb
        go_upto_region 5 with fail
        have hb := below_alloc' w3 (.cells #[.int .i64 0, .slice none 0 0, .slice none 0 0] 28)
        have T6 := Lib.hid (Bk.new w3 #[.int .i64 0, .slice none 0 0, .slice none 0 0] 28)
        replace HM := Lib.hid (HM.out.below hb)
        replace S3 := Lib.hid (S3.out.below hb)
        replace S4 := Lib.hid (S4.out.below hb)
        replace T3 := Lib.hid (T3.out.below hb)
        replace T5 := Lib.hid (T5.out.below hb)
        replace A := Lib.hid (bthen A.out hb)
        clear hb
        generalize World.alloc w3 _ = w4 at *
        have T3s := T3.out.1
        have T3c := T3.out.2
        have T5s := T5.out.1
        have T5c := T5.out.2
        go_wp2_with fail
        clear T3s T3c T5s T5c
        refine (HFS.out _ HM.out S3.out S4.out).mono ?_
        rintro e w5 ⟨rfl, hb⟩
        replace HM := Lib.hid (HM.out.below hb)
        replace S3 := Lib.hid (S3.out.below hb)
        replace S4 := Lib.hid (S4.out.below hb)
        replace T3 := Lib.hid (T3.out.below hb)
        replace T5 := Lib.hid (T5.out.below hb)
        replace T6 := Lib.hid (T6.out.below hb)
        replace A := Lib.hid (bthen A.out hb)
        clear hb
        go_upto_region 6 with fail
        have hb := below_alloc' w5 (.cells #[.int .i64 0, .slice none 0 0, .slice none 0 0] 28)
        have T8 := Lib.hid (Bk.new w5 #[.int .i64 0, .slice none 0 0, .slice none 0 0] 28)
        replace HM := Lib.hid (HM.out.below hb)
        replace S3 := Lib.hid (S3.out.below hb)
        replace S4 := Lib.hid (S4.out.below hb)
        replace T3 := Lib.hid (T3.out.below hb)
        replace T5 := Lib.hid (T5.out.below hb)
        replace T6 := Lib.hid (T6.out.below hb)
        replace A := Lib.hid (bthen A.out hb)
        clear hb
        generalize World.alloc w5 _ = w6 at *
        clear HFI HFS
        have T3s := T3.out.1
        have T3c := T3.out.2
        have T5s := T5.out.1
        have T5c := T5.out.2
        go_wp2_with fail
        clear T3s T3c T5s T5c
        refine (HAI.out _ HM.out S3.out).mono ?_
        rintro e w7 ⟨uI, rfl, OI, hb⟩
        replace HM := Lib.hid (HM.out.below hb)
        replace S3 := Lib.hid (S3.out.below hb)
        replace S4 := Lib.hid (S4.out.below hb)
        replace T3 := Lib.hid (T3.out.below hb)
        replace T5 := Lib.hid (T5.out.below hb)
        replace T6 := Lib.hid (T6.out.below hb)
        replace T8 := Lib.hid (T8.out.below hb)
        replace A := Lib.hid (bthen A.out hb)
        clear hb
        obtain ⟨XI, xI, rfl⟩ := OI.opn
        rw [li_length, acl_length] at OI ⊢
        replace OI := Lib.hid OI.sl
        have T3s := T3.out.1
        have T3c := T3.out.2
        have T5s := T5.out.1
        have T5c := T5.out.2
        go_wp2_with fail
        clear T3s T3c T5s T5c
        refine (HAS.out _ HM.out S3.out).mono ?_
        rintro e w8 ⟨uS, rfl, OS, hb⟩
        replace HM := Lib.hid (HM.out.below hb)
        replace S3 := Lib.hid (S3.out.below hb)
        replace S4 := Lib.hid (S4.out.below hb)
        replace T3 := Lib.hid (T3.out.below hb)
        replace T5 := Lib.hid (T5.out.below hb)
        replace T6 := Lib.hid (T6.out.below hb)
        replace T8 := Lib.hid (T8.out.below hb)
        replace OI := Lib.hid (OI.out.below hb)
        replace A := Lib.hid (bthen A.out hb)
        clear hb
        obtain ⟨XS, xS, rfl⟩ := OS.opn
        rw [li_length, acl_length] at OS ⊢
        replace OS := Lib.hid OS.sl
        clear HAI HAS
        have T6s := T6.out.1
        have T6c := T6.out.2
        have T8s := T8.out.1
        have T8c := T8.out.2
        go_wp2_with fail
        clear T6s T6c T8s T8c
        refine (laws_likeModel5 0 _ _ _ _ [] [] _ Sl.nil Sl.nil Sl.nil Sl.nil (by simp) (by simp)).mono ?_
        rintro e w9 ⟨rfl, hb⟩
        replace HM := Lib.hid (HM.out.below hb)
        replace S3 := Lib.hid (S3.out.below hb)
        replace S4 := Lib.hid (S4.out.below hb)
        replace T3 := Lib.hid (T3.out.below hb)
        replace T5 := Lib.hid (T5.out.below hb)
        replace T6 := Lib.hid (T6.out.below hb)
        replace T8 := Lib.hid (T8.out.below hb)
        replace OI := Lib.hid (OI.out.below hb)
        replace OS := Lib.hid (OS.out.below hb)
        replace A := Lib.hid (bthen A.out hb)
        clear hb
        have HLI := Lib.hid (fun W a b => laws_likeInts (.slice XI ns.length xI) (.slice XS ns.length xS) (li (acl ns us f)) W a b (by rw [li_length, acl_length]; omega))
        go_wp2_with fail
        refine (HLI.out _ OI.out OS.out).mono ?_
        rintro e w10 ⟨rfl, hb⟩
        replace HM := Lib.hid (HM.out.below hb)
        replace S3 := Lib.hid (S3.out.below hb)
        replace S4 := Lib.hid (S4.out.below hb)
        replace T3 := Lib.hid (T3.out.below hb)
        replace T5 := Lib.hid (T5.out.below hb)
        replace T6 := Lib.hid (T6.out.below hb)
        replace T8 := Lib.hid (T8.out.below hb)
        replace OI := Lib.hid (OI.out.below hb)
        replace OS := Lib.hid (OS.out.below hb)
        replace A := Lib.hid (bthen A.out hb)
        clear hb
        go_wp2
        go_ret
        exact ⟨rfl, A.out⟩
      · obtain ⟨gs, rfl, rfl, hgr⟩ := frOk_iff hfr
        have hg8 := hgr.1
        rw [li_length] at S4 ⊢
        cases his : isf ns us f gs
        · have HFI := Lib.hid (fun W a b d => impl_FiltrationModel_state ns us gs f A1 A2 A4 c1 c2 c4 (.slice A3 (enc f).length c3) W a h1 b hok hlf hmk hfk d hgr hfr his)
          have HFS := Lib.hid (fun W a b d => spec_FiltrationModel_state ns us gs f A1 A2 A4 c1 c2 c4 (.slice A3 (enc f).length c3) W a h1 b hok hlf hmk hfk d hgr hfr his)
          clear s1 s2 s3 s4 h1 hr hu6 hus hok hlf hmk hfk hfr his hgr
          go_upto_region 4 with fail
          have hb := bthen (below_alloc' w1 (.cells #[.int .i64 (ns.length : Int), .slice A1 ns.length c1, .slice A2 6 c2] 28)) (below_alloc' (World.alloc w1 (.cells #[.int .i64 (ns.length : Int), .slice A1 ns.length c1, .slice A2 6 c2] 28)) (.cells #[.int .i64 (gs.length : Int), .slice A4 gs.length c4] 26))
          have T3 := Lib.hid (Bk.new1 w1 #[.int .i64 (ns.length : Int), .slice A1 ns.length c1, .slice A2 6 c2] 28 (.cells #[.int .i64 (gs.length : Int), .slice A4 gs.length c4] 26))
          have T5 := Lib.hid (Bk.new2 w1 (.cells #[.int .i64 (ns.length : Int), .slice A1 ns.length c1, .slice A2 6 c2] 28) #[.int .i64 (gs.length : Int), .slice A4 gs.length c4] 26)
          replace HM := Lib.hid (HM.out.below hb)
          replace S3 := Lib.hid (S3.out.below hb)
          replace S4 := Lib.hid (S4.out.below hb)
          replace A := Lib.hid (bthen A.out hb)
          clear hb
          generalize World.alloc (World.alloc w1 _) _ = w2 at *
          have T3s := T3.out.1
          have T3c := T3.out.2
          have T5s := T5.out.1
          have T5c := T5.out.2
          go_wp2_with fail
          clear T3s T3c T5s T5c
          refine (HFI.out _ HM.out S3.out S4.out).mono ?_
          rintro e w3 ⟨rfl, hb⟩
          replace HM := Lib.hid (HM.out.below hb)
          replace S3 := Lib.hid (S3.out.below hb)
          replace S4 := Lib.hid (S4.out.below hb)
          replace T3 := Lib.hid (T3.out.below hb)
          replace T5 := Lib.hid (T5.out.below hb)
          replace A := Lib.hid (bthen A.out hb)
          clear hb
          go_upto_region 5 with fail
          have hb := below_alloc' w3 (.cells #[.int .i64 0, .slice none 0 0, .slice none 0 0] 28)
          have T6 := Lib.hid (Bk.new w3 #[.int .i64 0, .slice none 0 0, .slice none 0 0] 28)
          replace HM := Lib.hid (HM.out.below hb)
          replace S3 := Lib.hid (S3.out.below hb)
          replace S4 := Lib.hid (S4.out.below hb)
          replace T3 := Lib.hid (T3.out.below hb)
          replace T5 := Lib.hid (T5.out.below hb)
          replace A := Lib.hid (bthen A.out hb)
          clear hb
          generalize World.alloc w3 _ = w4 at *
          have T3s := T3.out.1
          have T3c := T3.out.2
          have T5s := T5.out.1
          have T5c := T5.out.2
          go_wp2_with fail
          clear T3s T3c T5s T5c
          refine (HFS.out _ HM.out S3.out S4.out).mono ?_
          rintro e w5 ⟨rfl, hb⟩
          replace HM := Lib.hid (HM.out.below hb)
          replace S3 := Lib.hid (S3.out.below hb)
          replace S4 := Lib.hid (S4.out.below hb)
          replace T3 := Lib.hid (T3.out.below hb)
          replace T5 := Lib.hid (T5.out.below hb)
          replace T6 := Lib.hid (T6.out.below hb)
          replace A := Lib.hid (bthen A.out hb)
          clear hb
          go_upto_region 6 with fail
          have hb := below_alloc' w5 (.cells #[.int .i64 0, .slice none 0 0, .slice none 0 0] 28)
          have T8 := Lib.hid (Bk.new w5 #[.int .i64 0, .slice none 0 0, .slice none 0 0] 28)
          replace HM := Lib.hid (HM.out.below hb)
          replace S3 := Lib.hid (S3.out.below hb)
          replace S4 := Lib.hid (S4.out.below hb)
          replace T3 := Lib.hid (T3.out.below hb)
          replace T5 := Lib.hid (T5.out.below hb)
          replace T6 := Lib.hid (T6.out.below hb)
          replace A := Lib.hid (bthen A.out hb)
          clear hb
          generalize World.alloc w5 _ = w6 at *
          clear HFI HFS
          have T3s := T3.out.1
          have T3c := T3.out.2
          have T5s := T5.out.1
          have T5c := T5.out.2
          go_wp2_with fail
          clear T3s T3c T5s T5c
          refine (HAI.out _ HM.out S3.out).mono ?_
          rintro e w7 ⟨uI, rfl, OI, hb⟩
          replace HM := Lib.hid (HM.out.below hb)
          replace S3 := Lib.hid (S3.out.below hb)
          replace S4 := Lib.hid (S4.out.below hb)
          replace T3 := Lib.hid (T3.out.below hb)
          replace T5 := Lib.hid (T5.out.below hb)
          replace T6 := Lib.hid (T6.out.below hb)
          replace T8 := Lib.hid (T8.out.below hb)
          replace A := Lib.hid (bthen A.out hb)
          clear hb
          obtain ⟨XI, xI, rfl⟩ := OI.opn
          rw [li_length, acl_length] at OI ⊢
          replace OI := Lib.hid OI.sl
          have T3s := T3.out.1
          have T3c := T3.out.2
          have T5s := T5.out.1
          have T5c := T5.out.2
          go_wp2_with fail
          clear T3s T3c T5s T5c
          refine (HAS.out _ HM.out S3.out).mono ?_
          rintro e w8 ⟨uS, rfl, OS, hb⟩
          replace HM := Lib.hid (HM.out.below hb)
          replace S3 := Lib.hid (S3.out.below hb)
          replace S4 := Lib.hid (S4.out.below hb)
          replace T3 := Lib.hid (T3.out.below hb)
          replace T5 := Lib.hid (T5.out.below hb)
          replace T6 := Lib.hid (T6.out.below hb)
          replace T8 := Lib.hid (T8.out.below hb)
          replace OI := Lib.hid (OI.out.below hb)
          replace A := Lib.hid (bthen A.out hb)
          clear hb
          obtain ⟨XS, xS, rfl⟩ := OS.opn
          rw [li_length, acl_length] at OS ⊢
          replace OS := Lib.hid OS.sl
          clear HAI HAS
          have T6s := T6.out.1
          have T6c := T6.out.2
          have T8s := T8.out.1
          have T8c := T8.out.2
          go_wp2_with fail
          clear T6s T6c T8s T8c
          refine (laws_likeModel5 0 _ _ _ _ [] [] _ Sl.nil Sl.nil Sl.nil Sl.nil (by simp) (by simp)).mono ?_
          rintro e w9 ⟨rfl, hb⟩
          replace HM := Lib.hid (HM.out.below hb)
          replace S3 := Lib.hid (S3.out.below hb)
          replace S4 := Lib.hid (S4.out.below hb)
          replace T3 := Lib.hid (T3.out.below hb)
          replace T5 := Lib.hid (T5.out.below hb)
          replace T6 := Lib.hid (T6.out.below hb)
          replace T8 := Lib.hid (T8.out.below hb)
          replace OI := Lib.hid (OI.out.below hb)
          replace OS := Lib.hid (OS.out.below hb)
          replace A := Lib.hid (bthen A.out hb)
          clear hb
          have HLI := Lib.hid (fun W a b => laws_likeInts (.slice XI ns.length xI) (.slice XS ns.length xS) (li (acl ns us f)) W a b (by rw [li_length, acl_length]; omega))
          go_wp2_with fail
          refine (HLI.out _ OI.out OS.out).mono ?_
          rintro e w10 ⟨rfl, hb⟩
          replace HM := Lib.hid (HM.out.below hb)
          replace S3 := Lib.hid (S3.out.below hb)
          replace S4 := Lib.hid (S4.out.below hb)
          replace T3 := Lib.hid (T3.out.below hb)
          replace T5 := Lib.hid (T5.out.below hb)
          replace T6 := Lib.hid (T6.out.below hb)
          replace T8 := Lib.hid (T8.out.below hb)
          replace OI := Lib.hid (OI.out.below hb)
          replace OS := Lib.hid (OS.out.below hb)
          replace A := Lib.hid (bthen A.out hb)
          clear hb
          go_wp2
          go_ret
          exact ⟨rfl, A.out⟩
        · have HFI := Lib.hid (fun W a b d => impl_FiltrationModel_ok ns us gs f A1 A2 A4 c1 c2 c4 (.slice A3 (enc f).length c3) W a h1 b hok hlf hmk hfk d hgr hfr his)
          have HFS := Lib.hid (fun W a b d => spec_FiltrationModel_ok ns us gs f A1 A2 A4 c1 c2 c4 (.slice A3 (enc f).length c3) W a h1 b hok hlf hmk hfk d hgr hfr his)
          have h2 : MdN gs (fmv ns us f) := fmv_mdn h1 hgr his
          have hmk2 := mdN_okX h2
          have HLX := Lib.hid (filtered h1 hok hgr his)
          have HSI := Lib.hid (fun W a => impl_SubformulasOf (.slice A3 (enc f).length c3) f W a hlf hok)
          have HSS := Lib.hid (fun W a => spec_SubformulasOf (.slice A3 (enc f).length c3) f W a hlf hok)
          have HPG : Hid (∀ t ∈ sbs8 f, ∃ g, Part f g ∧ t = t8 (txt g) ∧ g.ok = true ∧ (enc g).length ≤ 40 ∧ isF (enc g) = true) := Lib.hid (fun t ht => by obtain ⟨g, hp, e⟩ := sbs8_mem ht; have h3 := part_ok hok hp; have h4 : (enc g).length ≤ 40 := by { obtain ⟨i, hi, e2⟩ := hp; have := (part_pe f hi).2.1; rw [e2] at this; omega }; exact ⟨g, hp, e, h3, h4, (isF_iff _).2 ⟨g, h3, rfl, h4⟩⟩)
          have HT1 : Hid (∀ g : Fm, g.ok = true → (enc g).length ≤ 40 → isF (enc g) = true → ∀ W X x , Mdl W (.slice A1 ns.length c1) (.slice A2 6 c2) ns us → Sl cN W (.slice X (enc g).length x) (enc g) → Calls Tryz.prog 15 #[.agg #[.int .i64 (ns.length : Int), .slice A1 ns.length c1, .slice A2 6 c2], .slice X (enc g).length x] W fun e w' => e = .returned (.tuple #[.int .i64 (tv ns us g : Nat), .int .i64 0]) ∧ Below W.heap.size W w') := Lib.hid (fun g a b d W X x  e h => impl_TruthSet_ok ns us g A1 A2 c1 c2 _ W e h1 h a b hmk d)
          have HT3 : Hid (∀ g : Fm, g.ok = true → (enc g).length ≤ 40 → isF (enc g) = true → ∀ W X x , Mdl W (.slice A1 ns.length c1) (.slice A2 6 c2) ns us → Sl cN W (.slice X (enc g).length x) (enc g) → Calls Tryz.prog 17 #[.agg #[.int .i64 (ns.length : Int), .slice A1 ns.length c1, .slice A2 6 c2], .slice X (enc g).length x] W fun e w' => e = .returned (.tuple #[.int .i64 (tv ns us g : Nat), .int .i64 0]) ∧ Below W.heap.size W w') := Lib.hid (fun g a b d W X x  e h => spec_TruthSet_ok ns us g A1 A2 c1 c2 _ W e h1 h a b hmk d)
          have HT2 : Hid (∀ g : Fm, g.ok = true → (enc g).length ≤ 40 → isF (enc g) = true → ∀ W X x Xg xg Xv xv, Mdl W (.slice Xg gs.length xg) (.slice Xv 6 xv) gs (fmv ns us f) → Sl cN W (.slice X (enc g).length x) (enc g) → Calls Tryz.prog 15 #[.agg #[.int .i64 (gs.length : Int), .slice Xg gs.length xg, .slice Xv 6 xv], .slice X (enc g).length x] W fun e w' => e = .returned (.tuple #[.int .i64 (tv gs (fmv ns us f) g : Nat), .int .i64 0]) ∧ Below W.heap.size W w') := Lib.hid (fun g a b d W X x Xg xg Xv xv e h => impl_TruthSet_ok gs (fmv ns us f) g Xg Xv xg xv _ W e h2 h a b hmk2 d)
          have HT4 : Hid (∀ g : Fm, g.ok = true → (enc g).length ≤ 40 → isF (enc g) = true → ∀ W X x Xg xg Xv xv, Mdl W (.slice Xg gs.length xg) (.slice Xv 6 xv) gs (fmv ns us f) → Sl cN W (.slice X (enc g).length x) (enc g) → Calls Tryz.prog 17 #[.agg #[.int .i64 (gs.length : Int), .slice Xg gs.length xg, .slice Xv 6 xv], .slice X (enc g).length x] W fun e w' => e = .returned (.tuple #[.int .i64 (tv gs (fmv ns us f) g : Nat), .int .i64 0]) ∧ Below W.heap.size W w') := Lib.hid (fun g a b d W X x Xg xg Xv xv e h => spec_TruthSet_ok gs (fmv ns us f) g Xg Xv xg xv _ W e h2 h a b hmk2 d)
          have HB1 : Hid (∀ g, tv ns us g < 9223372036854775808) := Lib.hid (fun g => by have := tv_lt ns us hus g; have := two_pow_256 hn8; omega)
          have HB2 : Hid (∀ g, tv gs (fmv ns us f) g < 9223372036854775808) := Lib.hid (fun g => by have := tv_lt gs _ h2.b g; have := two_pow_256 hg8; omega)
          have HCL : Hid (∀ x, x < ns.length → (acl ns us f).getD x 0 < 64) := Lib.hid (fun x hx => by have := ((cls ns us f).1 x hx).1; have := acn_le ns us f; omega)
          have HFV : Hid ((li (fmv ns us f)).length = 6) := Lib.hid (by rw [li_length]; exact h2.l)
          have HTL : Hid ((sbs8 f).length ≤ 40) := Lib.hid (Nat.le_trans (sbI8_len f _) hlf)
          clear s1 s2 s3 s4 h1 hr hu6 hus hok hlf hmk hfk hfr his hgr h2 hmk2
          generalize fmv ns us f = fv at *
          go_upto_region 4 with fail
          have hb := bthen (below_alloc' w1 (.cells #[.int .i64 (ns.length : Int), .slice A1 ns.length c1, .slice A2 6 c2] 28)) (below_alloc' (World.alloc w1 (.cells #[.int .i64 (ns.length : Int), .slice A1 ns.length c1, .slice A2 6 c2] 28)) (.cells #[.int .i64 (gs.length : Int), .slice A4 gs.length c4] 26))
          have T3 := Lib.hid (Bk.new1 w1 #[.int .i64 (ns.length : Int), .slice A1 ns.length c1, .slice A2 6 c2] 28 (.cells #[.int .i64 (gs.length : Int), .slice A4 gs.length c4] 26))
          have T5 := Lib.hid (Bk.new2 w1 (.cells #[.int .i64 (ns.length : Int), .slice A1 ns.length c1, .slice A2 6 c2] 28) #[.int .i64 (gs.length : Int), .slice A4 gs.length c4] 26)
          replace HM := Lib.hid (HM.out.below hb)
          replace S3 := Lib.hid (S3.out.below hb)
          replace S4 := Lib.hid (S4.out.below hb)
          replace A := Lib.hid (bthen A.out hb)
          clear hb
          generalize World.alloc (World.alloc w1 _) _ = w2 at *
          have T3s := T3.out.1
          have T3c := T3.out.2
          have T5s := T5.out.1
          have T5c := T5.out.2
          go_wp2_with fail
          clear T3s T3c T5s T5c
          refine (HFI.out _ HM.out S3.out S4.out).mono ?_
          rintro e w3 ⟨v1I, v2I, rfl, PI, QI, -, hb⟩
          replace HM := Lib.hid (HM.out.below hb)
          replace S3 := Lib.hid (S3.out.below hb)
          replace S4 := Lib.hid (S4.out.below hb)
          replace T3 := Lib.hid (T3.out.below hb)
          replace T5 := Lib.hid (T5.out.below hb)
          replace A := Lib.hid (bthen A.out hb)
          clear hb
          obtain ⟨GI, gI, rfl⟩ := PI.opn
          obtain ⟨VI, vI, rfl⟩ := QI.opn
          rw [li_length] at PI ⊢
          rw [HFV.out] at QI ⊢
          replace PI := Lib.hid PI.sl
          replace QI := Lib.hid QI.sl
          go_upto_region 5 with fail
          have hb := below_alloc' w3 (.cells #[.int .i64 (gs.length : Int), .slice GI gs.length gI, .slice VI 6 vI] 28)
          have T6 := Lib.hid (Bk.new w3 #[.int .i64 (gs.length : Int), .slice GI gs.length gI, .slice VI 6 vI] 28)
          replace HM := Lib.hid (HM.out.below hb)
          replace S3 := Lib.hid (S3.out.below hb)
          replace S4 := Lib.hid (S4.out.below hb)
          replace T3 := Lib.hid (T3.out.below hb)
          replace T5 := Lib.hid (T5.out.below hb)
          replace PI := Lib.hid (PI.out.below hb)
          replace QI := Lib.hid (QI.out.below hb)
          replace A := Lib.hid (bthen A.out hb)
          clear hb
          generalize World.alloc w3 _ = w4 at *
          have T3s := T3.out.1
          have T3c := T3.out.2
          have T5s := T5.out.1
          have T5c := T5.out.2
          go_wp2_with fail
          clear T3s T3c T5s T5c
          refine (HFS.out _ HM.out S3.out S4.out).mono ?_
          rintro e w5 ⟨v1S, v2S, rfl, PS, QS, hb⟩
          replace HM := Lib.hid (HM.out.below hb)
          replace S3 := Lib.hid (S3.out.below hb)
          replace S4 := Lib.hid (S4.out.below hb)
          replace T3 := Lib.hid (T3.out.below hb)
          replace T5 := Lib.hid (T5.out.below hb)
          replace PI := Lib.hid (PI.out.below hb)
          replace QI := Lib.hid (QI.out.below hb)
          replace T6 := Lib.hid (T6.out.below hb)
          replace A := Lib.hid (bthen A.out hb)
          clear hb
          obtain ⟨GS, gS, rfl⟩ := PS.opn
          obtain ⟨VS, vS, rfl⟩ := QS.opn
          rw [li_length] at PS ⊢
          rw [HFV.out] at QS ⊢
          replace PS := Lib.hid PS.sl
          replace QS := Lib.hid QS.sl
          go_upto_region 6 with fail
          have hb := below_alloc' w5 (.cells #[.int .i64 (gs.length : Int), .slice GS gs.length gS, .slice VS 6 vS] 28)
          have T8 := Lib.hid (Bk.new w5 #[.int .i64 (gs.length : Int), .slice GS gs.length gS, .slice VS 6 vS] 28)
          replace HM := Lib.hid (HM.out.below hb)
          replace S3 := Lib.hid (S3.out.below hb)
          replace S4 := Lib.hid (S4.out.below hb)
          replace T3 := Lib.hid (T3.out.below hb)
          replace T5 := Lib.hid (T5.out.below hb)
          replace PI := Lib.hid (PI.out.below hb)
          replace QI := Lib.hid (QI.out.below hb)
          replace T6 := Lib.hid (T6.out.below hb)
          replace PS := Lib.hid (PS.out.below hb)
          replace QS := Lib.hid (QS.out.below hb)
          replace A := Lib.hid (bthen A.out hb)
          clear hb
          generalize World.alloc w5 _ = w6 at *
          clear HFI HFS
          have T3s := T3.out.1
          have T3c := T3.out.2
          have T5s := T5.out.1
          have T5c := T5.out.2
          go_wp2_with fail
          clear T3s T3c T5s T5c
          refine (HAI.out _ HM.out S3.out).mono ?_
          rintro e w7 ⟨uI, rfl, OI, hb⟩
          replace HM := Lib.hid (HM.out.below hb)
          replace S3 := Lib.hid (S3.out.below hb)
          replace S4 := Lib.hid (S4.out.below hb)
          replace T3 := Lib.hid (T3.out.below hb)
          replace T5 := Lib.hid (T5.out.below hb)
          replace PI := Lib.hid (PI.out.below hb)
          replace QI := Lib.hid (QI.out.below hb)
          replace T6 := Lib.hid (T6.out.below hb)
          replace PS := Lib.hid (PS.out.below hb)
          replace QS := Lib.hid (QS.out.below hb)
          replace T8 := Lib.hid (T8.out.below hb)
          replace A := Lib.hid (bthen A.out hb)
          clear hb
          obtain ⟨XI, xI, rfl⟩ := OI.opn
          rw [li_length, acl_length] at OI ⊢
          replace OI := Lib.hid OI.sl
          have T3s := T3.out.1
          have T3c := T3.out.2
          have T5s := T5.out.1
          have T5c := T5.out.2
          go_wp2_with fail
          clear T3s T3c T5s T5c
          refine (HAS.out _ HM.out S3.out).mono ?_
          rintro e w8 ⟨uS, rfl, OS, hb⟩
          replace HM := Lib.hid (HM.out.below hb)
          replace S3 := Lib.hid (S3.out.below hb)
          replace S4 := Lib.hid (S4.out.below hb)
          replace T3 := Lib.hid (T3.out.below hb)
          replace T5 := Lib.hid (T5.out.below hb)
          replace PI := Lib.hid (PI.out.below hb)
          replace QI := Lib.hid (QI.out.below hb)
          replace T6 := Lib.hid (T6.out.below hb)
          replace PS := Lib.hid (PS.out.below hb)
          replace QS := Lib.hid (QS.out.below hb)
          replace T8 := Lib.hid (T8.out.below hb)
          replace OI := Lib.hid (OI.out.below hb)
          replace A := Lib.hid (bthen A.out hb)
          clear hb
          obtain ⟨XS, xS, rfl⟩ := OS.opn
          rw [li_length, acl_length] at OS ⊢
          replace OS := Lib.hid OS.sl
          clear HAI HAS
          have T6s := T6.out.1
          have T6c := T6.out.2
          have T8s := T8.out.1
          have T8c := T8.out.2
          go_wp2_with fail
          clear T6s T6c T8s T8c
          refine (laws_likeModel5 (gs.length : Int) _ _ _ _ (li gs) (li fv) _ PI.out PS.out QI.out QS.out (by rw [li_length]; omega) (by rw [HFV.out]; omega)).mono ?_
          rintro e w9 ⟨rfl, hb⟩
          replace HM := Lib.hid (HM.out.below hb)
          replace S3 := Lib.hid (S3.out.below hb)
          replace S4 := Lib.hid (S4.out.below hb)
          replace T3 := Lib.hid (T3.out.below hb)
          replace T5 := Lib.hid (T5.out.below hb)
          replace PI := Lib.hid (PI.out.below hb)
          replace QI := Lib.hid (QI.out.below hb)
          replace T6 := Lib.hid (T6.out.below hb)
          replace PS := Lib.hid (PS.out.below hb)
          replace QS := Lib.hid (QS.out.below hb)
          replace T8 := Lib.hid (T8.out.below hb)
          replace OI := Lib.hid (OI.out.below hb)
          replace OS := Lib.hid (OS.out.below hb)
          replace A := Lib.hid (bthen A.out hb)
          clear hb
          have HLI := Lib.hid (fun W a b => laws_likeInts (.slice XI ns.length xI) (.slice XS ns.length xS) (li (acl ns us f)) W a b (by rw [li_length, acl_length]; omega))
          go_wp2_with fail
          refine (HLI.out _ OI.out OS.out).mono ?_
          rintro e w10 ⟨rfl, hb⟩
          replace HM := Lib.hid (HM.out.below hb)
          replace S3 := Lib.hid (S3.out.below hb)
          replace S4 := Lib.hid (S4.out.below hb)
          replace T3 := Lib.hid (T3.out.below hb)
          replace T5 := Lib.hid (T5.out.below hb)
          replace PI := Lib.hid (PI.out.below hb)
          replace QI := Lib.hid (QI.out.below hb)
          replace T6 := Lib.hid (T6.out.below hb)
          replace PS := Lib.hid (PS.out.below hb)
          replace QS := Lib.hid (QS.out.below hb)
          replace T8 := Lib.hid (T8.out.below hb)
          replace OI := Lib.hid (OI.out.below hb)
          replace OS := Lib.hid (OS.out.below hb)
          replace A := Lib.hid (bthen A.out hb)
          clear hb
          clear HLI T6 PI QI OI T5 S4
          go_wp2_with fail
          refine (HSI.out _ S3.out).mono ?_
          rintro e w11 ⟨mM, rfl, KM, hb⟩
          replace HM := Lib.hid (HM.out.below hb)
          replace S3 := Lib.hid (S3.out.below hb)
          replace T3 := Lib.hid (T3.out.below hb)
          replace PS := Lib.hid (PS.out.below hb)
          replace QS := Lib.hid (QS.out.below hb)
          replace T8 := Lib.hid (T8.out.below hb)
          replace OS := Lib.hid (OS.out.below hb)
          replace A := Lib.hid (bthen A.out hb)
          clear hb
          obtain ⟨YM, yM, rfl⟩ := KM.opn
          rw [bs_length] at KM ⊢
          replace KM := Lib.hid KM
          go_wp2_with fail
          refine (HSS.out _ S3.out).mono ?_
          rintro e w12 ⟨mN, rfl, KN, hb⟩
          replace HM := Lib.hid (HM.out.below hb)
          replace S3 := Lib.hid (S3.out.below hb)
          replace T3 := Lib.hid (T3.out.below hb)
          replace PS := Lib.hid (PS.out.below hb)
          replace QS := Lib.hid (QS.out.below hb)
          replace T8 := Lib.hid (T8.out.below hb)
          replace OS := Lib.hid (OS.out.below hb)
          replace KM := Lib.hid (KM.out.below hb)
          replace A := Lib.hid (bthen A.out hb)
          clear hb
          obtain ⟨YN, yN, rfl⟩ := KN.opn
          rw [bs_length] at KN ⊢
          replace KN := Lib.hid KN
          have HLT := Lib.hid (fun W a b => laws_likeTexts5 (.slice YM (sbs8 f).length yM) (.slice YN (sbs8 f).length yN) (bs (sbs8 f)) W a b (by rw [bs_length]; have := HTL.out; omega))
          go_wp2_with fail
          refine (HLT.out _ KM.out KN.out).mono ?_
          rintro e w13 ⟨rfl, hb⟩
          replace HM := Lib.hid (HM.out.below hb)
          replace S3 := Lib.hid (S3.out.below hb)
          replace T3 := Lib.hid (T3.out.below hb)
          replace PS := Lib.hid (PS.out.below hb)
          replace QS := Lib.hid (QS.out.below hb)
          replace T8 := Lib.hid (T8.out.below hb)
          replace OS := Lib.hid (OS.out.below hb)
          replace KM := Lib.hid (KM.out.below hb)
          replace KN := Lib.hid (KN.out.below hb)
          replace A := Lib.hid (bthen A.out hb)
          clear hb
          clear HLT KM HSI HSS S3
          have HN : Hid (Mdl w13 (.slice GS gs.length gS) (.slice VS 6 vS) gs fv) := Lib.hid ⟨PS.out, QS.out⟩
          clear PS QS HFV
          generalize sbs8 f = TT at *
          go_wp2
          go_loopw [18] (fun i wr => ∃ j : Nat, i = .int .i64 (j : Int) ∧ j ≤ TT.length ∧ Below w13.heap.size w13 wr) (fun i _ => TT.length - (intOf i).toNat)
          case atStart => exact ⟨0, rfl, Nat.zero_le _, Below.refl _ _⟩
          case round =>
            obtain ⟨j, rfl, hj, hb⟩ := hrel
            have HBL := Lib.hid hb
            replace HM := Lib.hid (HM.out.below hb)
            replace T3 := Lib.hid (T3.out.below hb)
            replace T8 := Lib.hid (T8.out.below hb)
            replace OS := Lib.hid (OS.out.below hb)
            replace KN := Lib.hid (KN.out.below hb)
            replace HN := Lib.hid (HN.out.below hb)
            replace A := Lib.hid (bthen A.out hb)
            clear hb
            by_cases hlt : j < TT.length
            · obtain ⟨G, hp, eT, gok, gl, gf⟩ := HPG.out _ (List.getElem_mem hlt)
              have HGO := Lib.hid gok
              have HGL := Lib.hid gl
              have HLX2 := Lib.hid (HLX.out G hp)
              replace HT1 := Lib.hid (HT1.out G gok gl gf)
              replace HT2 := Lib.hid (HT2.out G gok gl gf)
              replace HT3 := Lib.hid (HT3.out G gok gl gf)
              replace HT4 := Lib.hid (HT4.out G gok gl gf)
              replace HB1 := Lib.hid (HB1.out G)
              replace HB2 := Lib.hid (HB2.out G)
              have HTX : Hid ((bs TT)[j]'(by rw [bs_length]; exact hlt) = txt G) := Lib.hid (by rw [bs_get, eT]; rfl)
              clear hp gok gl gf eT HPG HLX
              have HJB : Hid (j < (bs TT).length) := Lib.hid (by rw [bs_length]; exact hlt)
              obtain ⟨bt, ot, hYN⟩ : ∃ bt ot, YN = some ⟨bt, ot, none⟩ := by obtain ⟨b, o, e, -, -⟩ := KN.out.atS (k := j) HJB.out; exact ⟨b, o, e⟩
              subst hYN
              have t0 := T3.out.2 0
              have t1 := T3.out.2 1
              have t2 := T3.out.2 2
              have tl := T3.out.1
              obtain ⟨b1, o1, e1, ht, tc⟩ := KN.out.atS (k := j) HJB.out
              injection e1 with e1
              injection e1 with e1 e2
              subst e1
              subst e2
              rw [HTX.out] at tc
              go_upto_region 19 with fail
              have hI := (Below.refl wr.heap.size wr).drew
              refine wp_region_sched (Below wr.heap.size wr) 11 [0, 1, 2, 3, 4, 7, 8, 9] [0, 1, 2, 3, 4, 5, 6, 7, 8, 9, 10] (by kernel_rfl) (by kernel_rfl) hI ?_
              repeat
                apply wpSched_q rfl rfl
                case h =>
                  intro w' hI K hK
                  have t0' := (hI.cell (p := ⟨w1.heap.size, 0, none⟩) tl).trans t0
                  have t1' := (hI.cell (p := ⟨w1.heap.size, 1, none⟩) tl).trans t1
                  have t2' := (hI.cell (p := ⟨w1.heap.size, 2, none⟩) tl).trans t2
                  have tc' := (hI.cell (p := ⟨bt, ot + j, none⟩) ht).trans tc
                  simp only [quietV, stillV]
                  go_simp
                  exact hK
                go_simp
              refine wpSched_r rfl rfl ?_ hI
              intro K hK _
              go_simp
              refine (laws_read5 G _ HGL.out HGO.out).mono ?_
              rintro e W0 ⟨XR, xR, rfl, SR, hb⟩
              replace hI := hI.trans (hb.mono hI.size)
              refine hK _ _ hI ?_
              clear hK K hb
              replace SR := Lib.hid SR
              repeat
                apply wpSched_q rfl rfl
                case h =>
                  intro w' hI K hK
                  have t0' := (hI.cell (p := ⟨w1.heap.size, 0, none⟩) tl).trans t0
                  have t1' := (hI.cell (p := ⟨w1.heap.size, 1, none⟩) tl).trans t1
                  have t2' := (hI.cell (p := ⟨w1.heap.size, 2, none⟩) tl).trans t2
                  simp only [quietV, stillV]
                  go_simp
                  exact hK
                go_simp
              refine wpSched_r rfl rfl ?_ hI
              intro K hK _
              go_simp
              refine (HT1.out _ _ _ (HM.out.below hI) SR.out).mono ?_
              rintro e w14 ⟨rfl, hb⟩
              replace hI := hI.trans (hb.mono hI.size)
              refine hK _ _ hI ?_
              clear hK K hb SR t0 t1 t2 tl ht tc
              repeat
                apply wpSched_q rfl rfl
                case h =>
                  intro w' hI K hK
                  simp only [quietV, stillV]
                  go_simp
                  exact hK
                go_simp
              refine wpSched_r rfl rfl ?_ hI
              intro K hK _
              go_simp
              refine hK _ _ hI ?_
              clear hK K
              refine wpSched_nil ?_
              try simp only [List.drop_succ_cons, List.drop_zero, List.drop_nil]
              replace HM := Lib.hid (HM.out.below hI)
              replace T3 := Lib.hid (T3.out.below hI)
              replace T8 := Lib.hid (T8.out.below hI)
              replace OS := Lib.hid (OS.out.below hI)
              replace KN := Lib.hid (KN.out.below hI)
              replace HN := Lib.hid (HN.out.below hI)
              replace A := Lib.hid (bthen A.out hI)
              replace HBL := Lib.hid (HBL.out.trans (hI.mono HBL.out.size))
              clear hI
              have t0 := T8.out.2 0
              have t1 := T8.out.2 1
              have t2 := T8.out.2 2
              have tl := T8.out.1
              obtain ⟨b1, o1, e1, ht, tc⟩ := KN.out.atS (k := j) HJB.out
              injection e1 with e1
              injection e1 with e1 e2
              subst e1
              subst e2
              rw [HTX.out] at tc
              go_upto_region 20 with fail
              have hI := (Below.refl w14.heap.size w14).drew
              refine wp_region_sched (Below w14.heap.size w14) 11 [0, 1, 2, 3, 4, 7, 8, 9] [0, 1, 2, 3, 4, 5, 6, 7, 8, 9, 10] (by kernel_rfl) (by kernel_rfl) hI ?_
              repeat
                apply wpSched_q rfl rfl
                case h =>
                  intro w' hI K hK
                  have t0' := (hI.cell (p := ⟨w5.heap.size, 0, none⟩) tl).trans t0
                  have t1' := (hI.cell (p := ⟨w5.heap.size, 1, none⟩) tl).trans t1
                  have t2' := (hI.cell (p := ⟨w5.heap.size, 2, none⟩) tl).trans t2
                  have tc' := (hI.cell (p := ⟨bt, ot + j, none⟩) ht).trans tc
                  simp only [quietV, stillV]
                  go_simp
                  exact hK
                go_simp
              refine wpSched_r rfl rfl ?_ hI
              intro K hK _
              go_simp
              refine (laws_read5 G _ HGL.out HGO.out).mono ?_
              rintro e W0 ⟨XR, xR, rfl, SR, hb⟩
              replace hI := hI.trans (hb.mono hI.size)
              refine hK _ _ hI ?_
              clear hK K hb
              replace SR := Lib.hid SR
              repeat
                apply wpSched_q rfl rfl
                case h =>
                  intro w' hI K hK
                  have t0' := (hI.cell (p := ⟨w5.heap.size, 0, none⟩) tl).trans t0
                  have t1' := (hI.cell (p := ⟨w5.heap.size, 1, none⟩) tl).trans t1
                  have t2' := (hI.cell (p := ⟨w5.heap.size, 2, none⟩) tl).trans t2
                  simp only [quietV, stillV]
                  go_simp
                  exact hK
                go_simp
              refine wpSched_r rfl rfl ?_ hI
              intro K hK _
              go_simp
              refine (HT2.out _ _ _ _ _ _ _ (HN.out.below hI) SR.out).mono ?_
              rintro e w15 ⟨rfl, hb⟩
              replace hI := hI.trans (hb.mono hI.size)
              refine hK _ _ hI ?_
              clear hK K hb SR t0 t1 t2 tl ht tc
              repeat
                apply wpSched_q rfl rfl
                case h =>
                  intro w' hI K hK
                  simp only [quietV, stillV]
                  go_simp
                  exact hK
                go_simp
              refine wpSched_r rfl rfl ?_ hI
              intro K hK _
              go_simp
              refine hK _ _ hI ?_
              clear hK K
              refine wpSched_nil ?_
              try simp only [List.drop_succ_cons, List.drop_zero, List.drop_nil]
              replace HM := Lib.hid (HM.out.below hI)
              replace T3 := Lib.hid (T3.out.below hI)
              replace T8 := Lib.hid (T8.out.below hI)
              replace OS := Lib.hid (OS.out.below hI)
              replace KN := Lib.hid (KN.out.below hI)
              replace HN := Lib.hid (HN.out.below hI)
              replace A := Lib.hid (bthen A.out hI)
              replace HBL := Lib.hid (HBL.out.trans (hI.mono HBL.out.size))
              clear hI
              have t0 := T3.out.2 0
              have t1 := T3.out.2 1
              have t2 := T3.out.2 2
              have tl := T3.out.1
              obtain ⟨b1, o1, e1, ht, tc⟩ := KN.out.atS (k := j) HJB.out
              injection e1 with e1
              injection e1 with e1 e2
              subst e1
              subst e2
              rw [HTX.out] at tc
              go_upto_region 21 with fail
              have hI := (Below.refl w15.heap.size w15).drew
              refine wp_region_sched (Below w15.heap.size w15) 11 [0, 1, 2, 3, 4, 7, 8, 9] [0, 1, 2, 3, 4, 5, 6, 7, 8, 9, 10] (by kernel_rfl) (by kernel_rfl) hI ?_
              repeat
                apply wpSched_q rfl rfl
                case h =>
                  intro w' hI K hK
                  have t0' := (hI.cell (p := ⟨w1.heap.size, 0, none⟩) tl).trans t0
                  have t1' := (hI.cell (p := ⟨w1.heap.size, 1, none⟩) tl).trans t1
                  have t2' := (hI.cell (p := ⟨w1.heap.size, 2, none⟩) tl).trans t2
                  have tc' := (hI.cell (p := ⟨bt, ot + j, none⟩) ht).trans tc
                  simp only [quietV, stillV]
                  go_simp
                  exact hK
                go_simp
              refine wpSched_r rfl rfl ?_ hI
              intro K hK _
              go_simp
              refine (laws_read5 G _ HGL.out HGO.out).mono ?_
              rintro e W0 ⟨XR, xR, rfl, SR, hb⟩
              replace hI := hI.trans (hb.mono hI.size)
              refine hK _ _ hI ?_
              clear hK K hb
              replace SR := Lib.hid SR
              repeat
                apply wpSched_q rfl rfl
                case h =>
                  intro w' hI K hK
                  have t0' := (hI.cell (p := ⟨w1.heap.size, 0, none⟩) tl).trans t0
                  have t1' := (hI.cell (p := ⟨w1.heap.size, 1, none⟩) tl).trans t1
                  have t2' := (hI.cell (p := ⟨w1.heap.size, 2, none⟩) tl).trans t2
                  simp only [quietV, stillV]
                  go_simp
                  exact hK
                go_simp
              refine wpSched_r rfl rfl ?_ hI
              intro K hK _
              go_simp
              refine (HT3.out _ _ _ (HM.out.below hI) SR.out).mono ?_
              rintro e w16 ⟨rfl, hb⟩
              replace hI := hI.trans (hb.mono hI.size)
              refine hK _ _ hI ?_
              clear hK K hb SR t0 t1 t2 tl ht tc
              repeat
                apply wpSched_q rfl rfl
                case h =>
                  intro w' hI K hK
                  simp only [quietV, stillV]
                  go_simp
                  exact hK
                go_simp
              refine wpSched_r rfl rfl ?_ hI
              intro K hK _
              go_simp
              refine hK _ _ hI ?_
              clear hK K
              refine wpSched_nil ?_
              try simp only [List.drop_succ_cons, List.drop_zero, List.drop_nil]
              replace HM := Lib.hid (HM.out.below hI)
              replace T3 := Lib.hid (T3.out.below hI)
              replace T8 := Lib.hid (T8.out.below hI)
              replace OS := Lib.hid (OS.out.below hI)
              replace KN := Lib.hid (KN.out.below hI)
              replace HN := Lib.hid (HN.out.below hI)
              replace A := Lib.hid (bthen A.out hI)
              replace HBL := Lib.hid (HBL.out.trans (hI.mono HBL.out.size))
              clear hI
              have t0 := T8.out.2 0
              have t1 := T8.out.2 1
              have t2 := T8.out.2 2
              have tl := T8.out.1
              obtain ⟨b1, o1, e1, ht, tc⟩ := KN.out.atS (k := j) HJB.out
              injection e1 with e1
              injection e1 with e1 e2
              subst e1
              subst e2
              rw [HTX.out] at tc
              go_upto_region 22 with fail
              have hI := (Below.refl w16.heap.size w16).drew
              refine wp_region_sched (Below w16.heap.size w16) 11 [0, 1, 2, 3, 4, 7, 8, 9] [0, 1, 2, 3, 4, 5, 6, 7, 8, 9, 10] (by kernel_rfl) (by kernel_rfl) hI ?_
              repeat
                apply wpSched_q rfl rfl
                case h =>
                  intro w' hI K hK
                  have t0' := (hI.cell (p := ⟨w5.heap.size, 0, none⟩) tl).trans t0
                  have t1' := (hI.cell (p := ⟨w5.heap.size, 1, none⟩) tl).trans t1
                  have t2' := (hI.cell (p := ⟨w5.heap.size, 2, none⟩) tl).trans t2
                  have tc' := (hI.cell (p := ⟨bt, ot + j, none⟩) ht).trans tc
                  simp only [quietV, stillV]
                  go_simp
                  exact hK
                go_simp
              refine wpSched_r rfl rfl ?_ hI
              intro K hK _
              go_simp
              refine (laws_read5 G _ HGL.out HGO.out).mono ?_
              rintro e W0 ⟨XR, xR, rfl, SR, hb⟩
              replace hI := hI.trans (hb.mono hI.size)
              refine hK _ _ hI ?_
              clear hK K hb
              replace SR := Lib.hid SR
              repeat
                apply wpSched_q rfl rfl
                case h =>
                  intro w' hI K hK
                  have t0' := (hI.cell (p := ⟨w5.heap.size, 0, none⟩) tl).trans t0
                  have t1' := (hI.cell (p := ⟨w5.heap.size, 1, none⟩) tl).trans t1
                  have t2' := (hI.cell (p := ⟨w5.heap.size, 2, none⟩) tl).trans t2
                  simp only [quietV, stillV]
                  go_simp
                  exact hK
                go_simp
              refine wpSched_r rfl rfl ?_ hI
              intro K hK _
              go_simp
              refine (HT4.out _ _ _ _ _ _ _ (HN.out.below hI) SR.out).mono ?_
              rintro e w17 ⟨rfl, hb⟩
              replace hI := hI.trans (hb.mono hI.size)
              refine hK _ _ hI ?_
              clear hK K hb SR t0 t1 t2 tl ht tc
              repeat
                apply wpSched_q rfl rfl
                case h =>
                  intro w' hI K hK
                  simp only [quietV, stillV]
                  go_simp
                  exact hK
                go_simp
              refine wpSched_r rfl rfl ?_ hI
              intro K hK _
              go_simp
              refine hK _ _ hI ?_
              clear hK K
              refine wpSched_nil ?_
              try simp only [List.drop_succ_cons, List.drop_zero, List.drop_nil]
              replace HM := Lib.hid (HM.out.below hI)
              replace T3 := Lib.hid (T3.out.below hI)
              replace T8 := Lib.hid (T8.out.below hI)
              replace OS := Lib.hid (OS.out.below hI)
              replace KN := Lib.hid (KN.out.below hI)
              replace HN := Lib.hid (HN.out.below hI)
              replace A := Lib.hid (bthen A.out hI)
              replace HBL := Lib.hid (HBL.out.trans (hI.mono HBL.out.size))
              clear hI
              clear HT1 HT2 HT3 HT4
              go_wp2
              go_loopw [27] (fun i wq => ∃ x : Nat, i = .int .i64 (x : Int) ∧ x ≤ ns.length ∧ Below w17.heap.size w17 wq) (fun i _ => ns.length - (intOf i).toNat)
              case atStart => exact ⟨0, rfl, Nat.zero_le _, Below.refl _ _⟩
              case round =>
                obtain ⟨x, rfl, hx, hb⟩ := hrel
                have HBQ := Lib.hid hb
                clear hb
                by_cases hxl : x < ns.length
                · obtain ⟨bc, oc, rfl, hbc, hcc⟩ := OS.out.atI (k := x) (by rw [li_length, acl_length]; exact hxl)
                  rw [li_get] at hcc
                  have HEQ := Lib.hid (HLX2.out x hxl)
                  have HC64 := Lib.hid (HCL.out x hxl)
                  generalize (acl ns us f).getD x 0 = cx at *
                  go_upto_region 28 with fail
                  have hI := HBQ.out.drew
                  refine wp_region_sched (Below w17.heap.size w17) 10 [0, 1, 3, 4, 5, 6, 7, 9] [0, 1, 3, 4, 5, 6, 7, 2, 8, 9] (by kernel_rfl) (by kernel_rfl) hI ?_
                  repeat
                    apply wpSched_q rfl rfl
                    case h =>
                      intro w' hI K hK
                      have hcc' := (hI.cell (p := ⟨bc, oc + x, none⟩) hbc).trans hcc
                      simp only [quietV, stillV]
                      go_simp
                      exact hK
                    go_simp
                  refine wpSched_r rfl rfl ?_ hI
                  intro K hK _
                  go_simp
                  refine (laws_bit5 _ x _ HB1.out (by omega)).mono ?_
                  rintro e w90 ⟨rfl, rfl⟩
                  refine hK _ _ hI ?_
                  clear hK K
                  repeat
                    apply wpSched_q rfl rfl
                    case h =>
                      intro w' hI K hK
                      simp only [quietV, stillV]
                      go_simp
                      exact hK
                    go_simp
                  refine wpSched_r rfl rfl ?_ hI
                  intro K hK _
                  go_simp
                  refine (laws_bit5 _ cx _ HB2.out HC64.out).mono ?_
                  rintro e w90 ⟨rfl, rfl⟩
                  refine hK _ _ hI ?_
                  clear hK K
                  repeat
                    apply wpSched_q rfl rfl
                    case h =>
                      intro w' hI K hK
                      simp only [quietV, stillV]
                      go_simp
                      exact hK
                    go_simp
                  refine wpSched_nil ?_
                  try simp only [List.drop_succ_cons, List.drop_zero, List.drop_nil]
                  rw [HEQ.out]
                  simp only [beq_self_eq_true, Bool.not_true]
                  replace HBQ := Lib.hid hI
                  clear hI hcc
                  go_wp2
                  exact ⟨⟨x + 1, by go_num, by omega, HBQ.out⟩, by simp [intOf]; omega⟩
                · obtain rfl : x = ns.length := by omega
                  replace HBL := Lib.hid (HBL.out.trans (HBQ.out.mono HBL.out.size))
                  clear HBQ
                  have hTL := HTL.out
                  go_wp2
                  exact ⟨⟨j + 1, by go_num, by omega, HBL.out⟩, by simp [intOf]; omega⟩
            · obtain rfl : j = TT.length := by omega
              go_wp2
              go_ret
              exact ⟨rfl, A.out⟩
    · have hmd2 : mdOk n L1 L2 = false ∨ (mdOk n L1 L2 = true ∧ isF L3 = false) := by
        cases h1 : mdOk n L1 L2 <;> cases h2 : isF L3 <;> simp_all
      have hfc : fcode n L1 L2 L3 = 1 := by unfold fcode; rcases hmd2 with h | ⟨h, h2⟩ <;> simp [*]
      have S1 := Lib.hid s1
      have S2 := Lib.hid s2
      have S3 := Lib.hid s3
      have S4 := Lib.hid s4
      have HFI := Lib.hid (fun W a b d e => impl_FiltrationModel_bad n k (.slice A1 L1.length c1) (.slice A2 L2.length c2) (.slice A3 L3.length c3) (.slice A4 L4.length c4) L1 L2 L4 L3 W a b d e (by omega) (by omega) (by omega) (by omega) (.inl hfc))
      have HFS := Lib.hid (fun W a b d e => spec_FiltrationModel_bad1 n k (.slice A1 L1.length c1) (.slice A2 L2.length c2) (.slice A3 L3.length c3) (.slice A4 L4.length c4) L1 L2 L4 L3 W a b d e (by omega) (by omega) (by omega) (by omega) hmd2)
      have HAI := Lib.hid (fun W a b d => impl_AlikeClasses_bad n (.slice A1 L1.length c1) (.slice A2 L2.length c2) (.slice A3 L3.length c3) L1 L2 L3 W a b d (by omega) (by omega) (by omega) hmd2)
      have HAS := Lib.hid (fun W a b d => spec_AlikeClasses_bad n (.slice A1 L1.length c1) (.slice A2 L2.length c2) (.slice A3 L3.length c3) L1 L2 L3 W a b d (by omega) (by omega) (by omega) hmd2)
      clear s1 s2 s3 s4 hmd hmd2 hfc hL1 hL2 hL3 hL4
      go_upto_region 4 with fail
      have hb := bthen (below_alloc' w1 (.cells #[.int .i64 n, .slice A1 L1.length c1, .slice A2 L2.length c2] 28)) (below_alloc' (World.alloc w1 (.cells #[.int .i64 n, .slice A1 L1.length c1, .slice A2 L2.length c2] 28)) (.cells #[.int .i64 k, .slice A4 L4.length c4] 26))
      have T3 := Lib.hid (Bk.new1 w1 #[.int .i64 n, .slice A1 L1.length c1, .slice A2 L2.length c2] 28 (.cells #[.int .i64 k, .slice A4 L4.length c4] 26))
      have T5 := Lib.hid (Bk.new2 w1 (.cells #[.int .i64 n, .slice A1 L1.length c1, .slice A2 L2.length c2] 28) #[.int .i64 k, .slice A4 L4.length c4] 26)
      replace S1 := Lib.hid (S1.out.below hb)
      replace S2 := Lib.hid (S2.out.below hb)
      replace S3 := Lib.hid (S3.out.below hb)
      replace S4 := Lib.hid (S4.out.below hb)
      replace A := Lib.hid (bthen A.out hb)
      clear hb
      generalize World.alloc (World.alloc w1 _) _ = w2 at *
      have T3s := T3.out.1
      have T3c := T3.out.2
      have T5s := T5.out.1
      have T5c := T5.out.2
      go_wp2_with fail
      clear T3s T3c T5s T5c
      refine (HFI.out _ S1.out S2.out S3.out S4.out).mono ?_
      rintro e w3 ⟨rfl, hb⟩
      replace S1 := Lib.hid (S1.out.below hb)
      replace S2 := Lib.hid (S2.out.below hb)
      replace S3 := Lib.hid (S3.out.below hb)
      replace S4 := Lib.hid (S4.out.below hb)
      replace T3 := Lib.hid (T3.out.below hb)
      replace T5 := Lib.hid (T5.out.below hb)
      replace A := Lib.hid (bthen A.out hb)
      clear hb
      go_upto_region 5 with fail
      have hb := below_alloc' w3 (.cells #[.int .i64 0, .slice none 0 0, .slice none 0 0] 28)
      have T6 := Lib.hid (Bk.new w3 #[.int .i64 0, .slice none 0 0, .slice none 0 0] 28)
      replace S1 := Lib.hid (S1.out.below hb)
      replace S2 := Lib.hid (S2.out.below hb)
      replace S3 := Lib.hid (S3.out.below hb)
      replace S4 := Lib.hid (S4.out.below hb)
      replace T3 := Lib.hid (T3.out.below hb)
      replace T5 := Lib.hid (T5.out.below hb)
      replace A := Lib.hid (bthen A.out hb)
      clear hb
      generalize World.alloc w3 _ = w4 at *
      have T3s := T3.out.1
      have T3c := T3.out.2
      have T5s := T5.out.1
      have T5c := T5.out.2
      go_wp2_with fail
      clear T3s T3c T5s T5c
      refine (HFS.out _ S1.out S2.out S3.out S4.out).mono ?_
      rintro e w5 ⟨rfl, hb⟩
      replace S1 := Lib.hid (S1.out.below hb)
      replace S2 := Lib.hid (S2.out.below hb)
      replace S3 := Lib.hid (S3.out.below hb)
      replace S4 := Lib.hid (S4.out.below hb)
      replace T3 := Lib.hid (T3.out.below hb)
      replace T5 := Lib.hid (T5.out.below hb)
      replace T6 := Lib.hid (T6.out.below hb)
      replace A := Lib.hid (bthen A.out hb)
      clear hb
      go_upto_region 6 with fail
      have hb := below_alloc' w5 (.cells #[.int .i64 0, .slice none 0 0, .slice none 0 0] 28)
      have T8 := Lib.hid (Bk.new w5 #[.int .i64 0, .slice none 0 0, .slice none 0 0] 28)
      replace S1 := Lib.hid (S1.out.below hb)
      replace S2 := Lib.hid (S2.out.below hb)
      replace S3 := Lib.hid (S3.out.below hb)
      replace S4 := Lib.hid (S4.out.below hb)
      replace T3 := Lib.hid (T3.out.below hb)
      replace T5 := Lib.hid (T5.out.below hb)
      replace T6 := Lib.hid (T6.out.below hb)
      replace A := Lib.hid (bthen A.out hb)
      clear hb
      generalize World.alloc w5 _ = w6 at *
      clear HFI HFS
      have T3s := T3.out.1
      have T3c := T3.out.2
      have T5s := T5.out.1
      have T5c := T5.out.2
      go_wp2_with fail
      clear T3s T3c T5s T5c
      refine (HAI.out _ S1.out S2.out S3.out).mono ?_
      rintro e w7 ⟨rfl, hb⟩
      replace S1 := Lib.hid (S1.out.below hb)
      replace S2 := Lib.hid (S2.out.below hb)
      replace S3 := Lib.hid (S3.out.below hb)
      replace S4 := Lib.hid (S4.out.below hb)
      replace T3 := Lib.hid (T3.out.below hb)
      replace T5 := Lib.hid (T5.out.below hb)
      replace T6 := Lib.hid (T6.out.below hb)
      replace T8 := Lib.hid (T8.out.below hb)
      replace A := Lib.hid (bthen A.out hb)
      clear hb
      have T3s := T3.out.1
      have T3c := T3.out.2
      have T5s := T5.out.1
      have T5c := T5.out.2
      go_wp2_with fail
      clear T3s T3c T5s T5c
      refine (HAS.out _ S1.out S2.out S3.out).mono ?_
      rintro e w8 ⟨rfl, hb⟩
      replace S1 := Lib.hid (S1.out.below hb)
      replace S2 := Lib.hid (S2.out.below hb)
      replace S3 := Lib.hid (S3.out.below hb)
      replace S4 := Lib.hid (S4.out.below hb)
      replace T3 := Lib.hid (T3.out.below hb)
      replace T5 := Lib.hid (T5.out.below hb)
      replace T6 := Lib.hid (T6.out.below hb)
      replace T8 := Lib.hid (T8.out.below hb)
      replace A := Lib.hid (bthen A.out hb)
      clear hb
      clear HAI HAS
      have T6s := T6.out.1
      have T6c := T6.out.2
      have T8s := T8.out.1
      have T8c := T8.out.2
      go_wp2_with fail
      clear T6s T6c T8s T8c
      refine (laws_likeModel5 0 _ _ _ _ [] [] _ Sl.nil Sl.nil Sl.nil Sl.nil (by simp) (by simp)).mono ?_
      rintro e w9 ⟨rfl, hb⟩
      replace S1 := Lib.hid (S1.out.below hb)
      replace S2 := Lib.hid (S2.out.below hb)
      replace S3 := Lib.hid (S3.out.below hb)
      replace S4 := Lib.hid (S4.out.below hb)
      replace T3 := Lib.hid (T3.out.below hb)
      replace T5 := Lib.hid (T5.out.below hb)
      replace T6 := Lib.hid (T6.out.below hb)
      replace T8 := Lib.hid (T8.out.below hb)
      replace A := Lib.hid (bthen A.out hb)
      clear hb
      go_wp2_with fail
      refine (laws_likeInts _ _ [] _ Sl.nil Sl.nil (by simp)).mono ?_
      rintro e w10 ⟨rfl, hb⟩
      replace S1 := Lib.hid (S1.out.below hb)
      replace S2 := Lib.hid (S2.out.below hb)
      replace S3 := Lib.hid (S3.out.below hb)
      replace S4 := Lib.hid (S4.out.below hb)
      replace T3 := Lib.hid (T3.out.below hb)
      replace T5 := Lib.hid (T5.out.below hb)
      replace T6 := Lib.hid (T6.out.below hb)
      replace T8 := Lib.hid (T8.out.below hb)
      replace A := Lib.hid (bthen A.out hb)
      clear hb
      go_wp2
      go_ret
      exact ⟨rfl, A.out⟩
end Go.Proofs.YtboldkahppdmbaaGreatDoor

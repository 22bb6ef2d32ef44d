/- The walk of FnTelling, written by program (gen07T.py). -/
import Derived.Test.YtnolbgdbboiehaaGreatTP
import Derived.Test.YtnolbgdbboiehaaGreatMU
import Derived.Test.YtnolbgdbboiehaaGreatTM
import Derived.Test.YtnolbgdbboiehaaGreatDY
import Derived.Test.YtnolbgdbboiehaaGreatLK
namespace Go.Proofs.YtnolbgdbboiehaaGreat
open Go.RowKit
set_option linter.unusedVariables false
set_option linter.unusedSimpArgs false
theorem Bk.new1 (w : World) (cs : Array Value) (e : TypeId) (o : Obj) : Bk ((w.alloc (.cells cs e)).alloc o) w.heap.size cs := (Bk.new w cs e).alloc o
theorem Bk.new2 (w : World) (o : Obj) (cs : Array Value) (e : TypeId) : Bk ((w.alloc o).alloc (.cells cs e)) (w.heap.size + 1) cs := by
  have h := Bk.new (w.alloc o) cs e
  rwa [size_alloc' w o] at h
theorem tcode_vals (n : Int) (xs vs : List Int) (x k : Int) (ys ts : List Int) (y : Int) : tcode n xs vs x k ys ts y = 0 ∨ tcode n xs vs x k ys ts y = 1 ∨ tcode n xs vs x k ys ts y = 2 := by
  unfold tcode
  split
  · split
    · exact .inl rfl
    · exact .inr (.inr rfl)
  · exact .inr (.inl rfl)
theorem tcode_zero {n x k y : Int} {L1 L2 M1 M2 : List Int} (h : tcode n L1 L2 x k M1 M2 y = 0) :
    ∃ (ns us ks ts : List Nat) (x' y' : Nat), L1 = li ns ∧ L2 = li us ∧ M1 = li ks ∧ M2 = li ts ∧ n = ns.length ∧ k = ks.length ∧ x = x' ∧ y = y' ∧ MdN ns us ∧ MdN ks ts ∧ x' < ns.length ∧ y' < ks.length := by
  unfold tcode at h
  split at h
  · rename_i hm
    split at h
    · rename_i hp
      rw [Bool.and_eq_true] at hm hp
      obtain ⟨ns, us, e1, e2, e3, hr, hl, hb⟩ := mdOk_iff hm.1
      obtain ⟨ks, ts, d1, d2, d3, hr', hl', hb'⟩ := mdOk_iff hm.2
      have i1 := inR_iff.1 hp.1
      have i2 := inR_iff.1 hp.2
      exact ⟨ns, us, ks, ts, x.toNat, y.toNat, e1, e2, d1, d2, e3, d3, by omega, by omega, ⟨hr, hl, hb⟩, ⟨hr', hl', hb'⟩, by omega, by omega⟩
    · cases h
  · cases h
theorem tell_cases (ns us ks ts : List Nat) (h1 : MdN ns us) (h2 : MdN ks ts) {x y : Nat} (hx : x < ns.length) (hy : y < ks.length) :
    (tres ns us ks ts x y = ([], 4) ∧ rdV ns us ks ts x y = 0 ∧ rdC ns us ks ts x y = 4 ∧ ∀ f : Fm, (tv ns us f).testBit x = (tv ks ts f).testBit y) ∨
    (∃ kk : Nat, tres ns us ks ts x y = ([], 3) ∧ rdV ns us ks ts x y = kk ∧ rdC ns us ks ts x y = 0) ∨
    (∃ (f : Fm) (kk : Nat), tres ns us ks ts x y = (enc f, 0) ∧ rdV ns us ks ts x y = kk ∧ rdC ns us ks ts x y = 0 ∧ f.ok = true ∧ (enc f).length ≤ 40 ∧ f.md ≤ kk ∧ (tv ns us f).testBit x = true ∧ (tv ks ts f).testBit y = false) := by
  unfold tres rdV rdC rdI
  cases hrd : rd ns us ks ts x y with
  | none => exact .inl ⟨rfl, rfl, rfl, rd_tv h1 h2 hx hy hrd⟩
  | some kk =>
    have hk : ¬ ((kk : Int) < 0) := by omega
    dsimp only
    rw [if_neg hk, if_neg hk]
    cases htab : tab ns us ks ts kk x y with
    | none => exact .inr (.inl ⟨kk, rfl, rfl, rfl⟩)
    | some zs =>
      obtain ⟨f, rfl, hok, hmd, ht, hf⟩ := tab_fm ns us ks ts h1 h2 kk hx hy htab
      exact .inr (.inr ⟨f, kk, rfl, rfl, rfl, hok, (tab_len kk htab).2, hmd, ht, hf⟩)
/-- IsTrueAt gives this answer -/
def IA (ns us : List Nat) (x : Nat) (L : List Nd) (b : Bool) (q : Int) : Prop := ∀ W A0 c0 A1 c1 v, Mdl W (.slice A0 ns.length c0) (.slice A1 6 c1) ns us → Sl cN W v L →
  Calls Tryz.prog 26 #[.agg #[.int .i64 ns.length, .slice A0 ns.length c0, .slice A1 6 c1], .int .i64 x, v] W fun e w' => e = .returned (.tuple #[.bool b, .int .i64 q]) ∧ Below W.heap.size W w'
theorem ia_both (ns us ks ts : List Nat) (x y : Nat) (h1 : MdN ns us) (h2 : MdN ks ts) (hx : x < ns.length) (hy : y < ks.length) (L : List Nd) (hL : L.length ≤ 1001) (hs : ∀ f : Fm, (tv ns us f).testBit x = (tv ks ts f).testBit y) :
    ∃ (b : Bool) (q : Int), IA ns us x L b q ∧ IA ks ts y L b q := by
  cases hf : isF L with
  | true =>
    obtain ⟨f, hok, rfl, hl⟩ := (isF_iff _).1 hf
    refine ⟨(tv ns us f).testBit x, 0, fun W A0 c0 A1 c1 v a b => impl_IsTrueAt_ok ns us f x A0 A1 c0 c1 v W a h1 hx b hok hl, fun W A0 c0 A1 c1 v a b => ?_⟩
    rw [hs f]
    exact impl_IsTrueAt_ok ks ts f y A0 A1 c0 c1 v W a h2 hy b hok hl
  | false =>
    have h8 := h1.r.1
    have h8k := h2.r.1
    exact ⟨false, 1, fun W A0 c0 A1 c1 v a b => impl_IsTrueAt_bad _ _ _ _ (li ns) (li us) L W a.a a.u b (by rw [li_length]; omega) (by rw [li_length, h1.l]; omega) (by omega) _ (by rw [hf, Bool.and_false]),
      fun W A0 c0 A1 c1 v a b => impl_IsTrueAt_bad _ _ _ _ (li ks) (li ts) L W a.a a.u b (by rw [li_length]; omega) (by rw [li_length, h2.l]; omega) (by omega) _ (by rw [hf, Bool.and_false])⟩
set_option maxHeartbeats 4000000 in
set_option maxRecDepth 100000 in
theorem final_Telling (v : Value) (xs : List (Fin 256)) (w : World) (h : Sl cY w v xs) :
    Calls Tryz.prog 4 #[v] w fun e w' => e = .returned (.bool true) ∧ Below w.heap.size w w' := by
  have A : Hid (Below w.heap.size w w) := Lib.hid (Below.refl _ _)
  go_enter Tryz.func4, Tryz.ntmps4
  replace h := Lib.hid h
  by_cases hbig : 4096 < xs.length
  · have HC := Lib.hid (decide_eq_true hbig ▸ laws_big v xs w h.out)
    clear hbig
    go_wp2_with fail
    refine HC.out.mono ?_
    rintro e w1 ⟨rfl, rfl⟩
    go_wp2
    go_ret
    exact ⟨rfl, A.out⟩
  · have HC := Lib.hid (decide_eq_false hbig ▸ laws_big v xs w h.out)
    have HD := Lib.hid (spec_DrawTellingFormula v xs w h.out (by omega))
    have HDS := Lib.hid (fun W hW => spec_DrawSubformulasOf v xs W hW (by omega))
    clear hbig
    go_wp2_with fail
    refine HC.out.mono ?_
    rintro e w1 ⟨rfl, rfl⟩
    clear HC
    go_wp2_with fail
    refine (HD.out).mono ?_
    rintro e w1 ⟨n, k, x, y, u1, u2, v1, v2, L1, L2, M1, M2, rfl, hbd, s1, s2, s3, s4, hb⟩
    replace h := Lib.hid (h.out.below hb)
    replace A := Lib.hid (bthen A.out hb)
    clear hb
    clear HD
    obtain ⟨hn, hk, hL1, hL2, hM1, hM2⟩ := hbd
    by_cases hc : tcode n L1 L2 x k M1 M2 y = 0
    · obtain ⟨ns, us, ks, ts, x, y, rfl, rfl, rfl, rfl, rfl, rfl, rfl, rfl, h1, h2, hx, hy⟩ := tcode_zero hc
      have h8 := h1.r.1
      have h8k := h2.r.1
      obtain ⟨A1, c1, rfl⟩ := s1.opn
      obtain ⟨A2, c2, rfl⟩ := s2.opn
      obtain ⟨A3, c3, rfl⟩ := s3.opn
      obtain ⟨A4, c4, rfl⟩ := s4.opn
      rw [li_length] at s1 s3
      rw [li_length, h1.l] at s2
      rw [li_length, h2.l] at s4
      rw [li_length, li_length, li_length, li_length, h1.l, h2.l]
      have HM : Hid (Mdl w1 (.slice A1 ns.length c1) (.slice A2 6 c2) ns us) := Lib.hid ⟨s1, s2⟩
      have HN : Hid (Mdl w1 (.slice A3 ks.length c3) (.slice A4 6 c4) ks ts) := Lib.hid ⟨s3, s4⟩
      clear s1 s2 s3 s4 hL1 hL2 hM1 hM2 hn hk
      have HTI := Lib.hid (fun W a b => impl_TellingFormula_ok ns us ks ts x y A1 A2 A3 A4 c1 c2 c3 c4 W a b h1 h2 hc hx hy)
      have HTS := Lib.hid (fun W a b => spec_TellingFormula_ok ns us ks ts x y A1 A2 A3 A4 c1 c2 c3 c4 W a b h1 h2 hc hx hy)
      have HRI := Lib.hid (fun W a b => impl_RoundsToTell_ok ns us ks ts x y A1 A2 A3 A4 c1 c2 c3 c4 W a b h1 h2 hc hx hy)
      have HRS := Lib.hid (fun W a b => spec_RoundsToTell_ok ns us ks ts x y A1 A2 A3 A4 c1 c2 c3 c4 W a b h1 h2 hc hx hy)
      have HIB := Lib.hid (fun L hL hs => ia_both ns us ks ts x y h1 h2 hx hy L hL hs)
      have HCS := tell_cases ns us ks ts h1 h2 hx hy
      have HI1 := Lib.hid (fun f hok hl W v a b => impl_IsTrueAt_ok ns us f x A1 A2 c1 c2 v W a h1 hx b hok hl)
      have HI2 := Lib.hid (fun f hok hl W v a b => impl_IsTrueAt_ok ks ts f y A3 A4 c3 c4 v W a h2 hy b hok hl)
      clear hc h1 h2 hx hy
      generalize tres ns us ks ts x y = R at *
      obtain ⟨R1, R2⟩ := R
      dsimp only at HTI HTS
      generalize rdV ns us ks ts x y = rv at *
      generalize rdC ns us ks ts x y = rc at *
      go_upto_region 4 with fail
      have hb := bthen (below_alloc' w1 (.cells #[.int .i64 (ns.length : Int), .slice A1 ns.length c1, .slice A2 6 c2] 28)) (below_alloc' (World.alloc w1 (.cells #[.int .i64 (ns.length : Int), .slice A1 ns.length c1, .slice A2 6 c2] 28)) (.cells #[.int .i64 (ks.length : Int), .slice A3 ks.length c3, .slice A4 6 c4] 28))
      have T3 := Lib.hid (Bk.new1 w1 #[.int .i64 (ns.length : Int), .slice A1 ns.length c1, .slice A2 6 c2] 28 (.cells #[.int .i64 (ks.length : Int), .slice A3 ks.length c3, .slice A4 6 c4] 28))
      have T4 := Lib.hid (Bk.new2 w1 (.cells #[.int .i64 (ns.length : Int), .slice A1 ns.length c1, .slice A2 6 c2] 28) #[.int .i64 (ks.length : Int), .slice A3 ks.length c3, .slice A4 6 c4] 28)
      replace h := Lib.hid (h.out.below hb)
      replace HM := Lib.hid (HM.out.below hb)
      replace HN := Lib.hid (HN.out.below hb)
      replace A := Lib.hid (bthen A.out hb)
      clear hb
      generalize World.alloc (World.alloc w1 _) _ = w2 at *
      rcases HCS with ⟨hR, rfl, rfl, hall⟩ | ⟨kk, hR, rfl, rfl⟩ | ⟨f, kk, hR, rfl, rfl, hok, hl, hmd, ht1, ht2⟩
      · injection hR with e1 e2
        subst e1
        subst e2
        replace HIB := Lib.hid (fun L hL => HIB.out L hL hall)
        clear hall HI1 HI2
        have T3s := T3.out.1
        have T3c := T3.out.2
        have T4s := T4.out.1
        have T4c := T4.out.2
        go_wp2_with fail
        clear T3s T3c T4s T4c
        refine (HTI.out _ HM.out HN.out).mono ?_
        rintro e w3 ⟨a5, rfl, S5, hb⟩
        replace h := Lib.hid (h.out.below hb)
        replace HM := Lib.hid (HM.out.below hb)
        replace HN := Lib.hid (HN.out.below hb)
        replace T3 := Lib.hid (T3.out.below hb)
        replace T4 := Lib.hid (T4.out.below hb)
        replace A := Lib.hid (bthen A.out hb)
        clear hb
        obtain ⟨B5, d5, rfl⟩ := S5.opn
        replace S5 := Lib.hid S5.sl
        have T3s := T3.out.1
        have T3c := T3.out.2
        have T4s := T4.out.1
        have T4c := T4.out.2
        go_wp2_with fail
        clear T3s T3c T4s T4c
        refine (HTS.out _ HM.out HN.out).mono ?_
        rintro e w4 ⟨a6, rfl, S6, hb⟩
        replace h := Lib.hid (h.out.below hb)
        replace HM := Lib.hid (HM.out.below hb)
        replace HN := Lib.hid (HN.out.below hb)
        replace T3 := Lib.hid (T3.out.below hb)
        replace T4 := Lib.hid (T4.out.below hb)
        replace S5 := Lib.hid (S5.out.below hb)
        replace A := Lib.hid (bthen A.out hb)
        clear hb
        obtain ⟨B6, d6, rfl⟩ := S6.opn
        replace S6 := Lib.hid S6.sl
        have T3s := T3.out.1
        have T3c := T3.out.2
        have T4s := T4.out.1
        have T4c := T4.out.2
        go_wp2_with fail
        clear T3s T3c T4s T4c
        refine (HRI.out _ HM.out HN.out).mono ?_
        rintro e w5 ⟨rfl, hb⟩
        replace h := Lib.hid (h.out.below hb)
        replace HM := Lib.hid (HM.out.below hb)
        replace HN := Lib.hid (HN.out.below hb)
        replace T3 := Lib.hid (T3.out.below hb)
        replace T4 := Lib.hid (T4.out.below hb)
        replace S5 := Lib.hid (S5.out.below hb)
        replace S6 := Lib.hid (S6.out.below hb)
        replace A := Lib.hid (bthen A.out hb)
        clear hb
        have T3s := T3.out.1
        have T3c := T3.out.2
        have T4s := T4.out.1
        have T4c := T4.out.2
        go_wp2_with fail
        clear T3s T3c T4s T4c
        refine (HRS.out _ HM.out HN.out).mono ?_
        rintro e w6 ⟨rfl, hb⟩
        replace h := Lib.hid (h.out.below hb)
        replace HM := Lib.hid (HM.out.below hb)
        replace HN := Lib.hid (HN.out.below hb)
        replace T3 := Lib.hid (T3.out.below hb)
        replace T4 := Lib.hid (T4.out.below hb)
        replace S5 := Lib.hid (S5.out.below hb)
        replace S6 := Lib.hid (S6.out.below hb)
        replace A := Lib.hid (bthen A.out hb)
        clear hb
        clear HTI HTS HRI HRS
        have HLF := Lib.hid (fun v u W a b => laws_likeFormula5 v u [] W a b (by simp))
        go_wp2_with fail
        refine (HLF.out _ _ _ S5.out S6.out).mono ?_
        rintro e w7 ⟨rfl, hb⟩
        replace h := Lib.hid (h.out.below hb)
        replace HM := Lib.hid (HM.out.below hb)
        replace HN := Lib.hid (HN.out.below hb)
        replace T3 := Lib.hid (T3.out.below hb)
        replace T4 := Lib.hid (T4.out.below hb)
        replace S5 := Lib.hid (S5.out.below hb)
        replace S6 := Lib.hid (S6.out.below hb)
        replace A := Lib.hid (bthen A.out hb)
        clear hb
        clear HLF
        go_wp2_with fail
        refine (HDS.out _ h.out).mono ?_
        rintro e w8 ⟨u16, L3, rfl, hL3, S16, hb⟩
        replace h := Lib.hid (h.out.below hb)
        replace HM := Lib.hid (HM.out.below hb)
        replace HN := Lib.hid (HN.out.below hb)
        replace T3 := Lib.hid (T3.out.below hb)
        replace T4 := Lib.hid (T4.out.below hb)
        replace S5 := Lib.hid (S5.out.below hb)
        replace S6 := Lib.hid (S6.out.below hb)
        replace A := Lib.hid (bthen A.out hb)
        clear hb
        replace S16 := Lib.hid S16
        obtain ⟨bb, q, Y1, Y2⟩ := HIB.out L3 hL3
        replace Y1 := Lib.hid Y1
        replace Y2 := Lib.hid Y2
        obtain ⟨A16, c16, rfl⟩ := S16.out.opn
        clear HDS HIB hL3 h
        have T3s := T3.out.1
        have T3c := T3.out.2
        have T4s := T4.out.1
        have T4c := T4.out.2
        go_wp2_with fail
        clear T3s T3c T4s T4c
        refine (Y1.out _ _ _ _ _ _ HM.out S16.out).mono ?_
        rintro e w9 ⟨rfl, hb⟩
        replace HM := Lib.hid (HM.out.below hb)
        replace HN := Lib.hid (HN.out.below hb)
        replace T3 := Lib.hid (T3.out.below hb)
        replace T4 := Lib.hid (T4.out.below hb)
        replace S5 := Lib.hid (S5.out.below hb)
        replace S6 := Lib.hid (S6.out.below hb)
        replace S16 := Lib.hid (S16.out.below hb)
        replace A := Lib.hid (bthen A.out hb)
        clear hb
        have T3s := T3.out.1
        have T3c := T3.out.2
        have T4s := T4.out.1
        have T4c := T4.out.2
        go_wp2_with fail
        clear T3s T3c T4s T4c
        refine (Y2.out _ _ _ _ _ _ HN.out S16.out).mono ?_
        rintro e w10 ⟨rfl, hb⟩
        replace HM := Lib.hid (HM.out.below hb)
        replace HN := Lib.hid (HN.out.below hb)
        replace T3 := Lib.hid (T3.out.below hb)
        replace T4 := Lib.hid (T4.out.below hb)
        replace S5 := Lib.hid (S5.out.below hb)
        replace S6 := Lib.hid (S6.out.below hb)
        replace S16 := Lib.hid (S16.out.below hb)
        replace A := Lib.hid (bthen A.out hb)
        clear hb
        clear Y1 Y2
        cases bb
        · go_wp2
          go_ret
          exact ⟨by simp, A.out⟩
        · go_wp2
          go_ret
          exact ⟨by simp, A.out⟩
      · injection hR with e1 e2
        subst e1
        subst e2
        clear HIB HI1 HI2 HDS
        have T3s := T3.out.1
        have T3c := T3.out.2
        have T4s := T4.out.1
        have T4c := T4.out.2
        go_wp2_with fail
        clear T3s T3c T4s T4c
        refine (HTI.out _ HM.out HN.out).mono ?_
        rintro e w3 ⟨a5, rfl, S5, hb⟩
        replace h := Lib.hid (h.out.below hb)
        replace HM := Lib.hid (HM.out.below hb)
        replace HN := Lib.hid (HN.out.below hb)
        replace T3 := Lib.hid (T3.out.below hb)
        replace T4 := Lib.hid (T4.out.below hb)
        replace A := Lib.hid (bthen A.out hb)
        clear hb
        obtain ⟨B5, d5, rfl⟩ := S5.opn
        replace S5 := Lib.hid S5.sl
        have T3s := T3.out.1
        have T3c := T3.out.2
        have T4s := T4.out.1
        have T4c := T4.out.2
        go_wp2_with fail
        clear T3s T3c T4s T4c
        refine (HTS.out _ HM.out HN.out).mono ?_
        rintro e w4 ⟨a6, rfl, S6, hb⟩
        replace h := Lib.hid (h.out.below hb)
        replace HM := Lib.hid (HM.out.below hb)
        replace HN := Lib.hid (HN.out.below hb)
        replace T3 := Lib.hid (T3.out.below hb)
        replace T4 := Lib.hid (T4.out.below hb)
        replace S5 := Lib.hid (S5.out.below hb)
        replace A := Lib.hid (bthen A.out hb)
        clear hb
        obtain ⟨B6, d6, rfl⟩ := S6.opn
        replace S6 := Lib.hid S6.sl
        have T3s := T3.out.1
        have T3c := T3.out.2
        have T4s := T4.out.1
        have T4c := T4.out.2
        go_wp2_with fail
        clear T3s T3c T4s T4c
        refine (HRI.out _ HM.out HN.out).mono ?_
        rintro e w5 ⟨rfl, hb⟩
        replace h := Lib.hid (h.out.below hb)
        replace HM := Lib.hid (HM.out.below hb)
        replace HN := Lib.hid (HN.out.below hb)
        replace T3 := Lib.hid (T3.out.below hb)
        replace T4 := Lib.hid (T4.out.below hb)
        replace S5 := Lib.hid (S5.out.below hb)
        replace S6 := Lib.hid (S6.out.below hb)
        replace A := Lib.hid (bthen A.out hb)
        clear hb
        have T3s := T3.out.1
        have T3c := T3.out.2
        have T4s := T4.out.1
        have T4c := T4.out.2
        go_wp2_with fail
        clear T3s T3c T4s T4c
        refine (HRS.out _ HM.out HN.out).mono ?_
        rintro e w6 ⟨rfl, hb⟩
        replace h := Lib.hid (h.out.below hb)
        replace HM := Lib.hid (HM.out.below hb)
        replace HN := Lib.hid (HN.out.below hb)
        replace T3 := Lib.hid (T3.out.below hb)
        replace T4 := Lib.hid (T4.out.below hb)
        replace S5 := Lib.hid (S5.out.below hb)
        replace S6 := Lib.hid (S6.out.below hb)
        replace A := Lib.hid (bthen A.out hb)
        clear hb
        clear HTI HTS HRI HRS
        have HLF := Lib.hid (fun v u W a b => laws_likeFormula5 v u [] W a b (by simp))
        go_wp2_with fail
        refine (HLF.out _ _ _ S5.out S6.out).mono ?_
        rintro e w7 ⟨rfl, hb⟩
        replace h := Lib.hid (h.out.below hb)
        replace HM := Lib.hid (HM.out.below hb)
        replace HN := Lib.hid (HN.out.below hb)
        replace T3 := Lib.hid (T3.out.below hb)
        replace T4 := Lib.hid (T4.out.below hb)
        replace S5 := Lib.hid (S5.out.below hb)
        replace S6 := Lib.hid (S6.out.below hb)
        replace A := Lib.hid (bthen A.out hb)
        clear hb
        clear HLF
        go_wp2
        go_ret
        exact ⟨rfl, A.out⟩
      · injection hR with e1 e2
        subst e1
        subst e2
        clear HIB HDS
        have hl2 := Lib.hid hl
        replace HI1 := Lib.hid (ht1 ▸ HI1.out f hok hl)
        replace HI2 := Lib.hid (ht2 ▸ HI2.out f hok hl)
        have HDP := Lib.hid (fun W v a => impl_DepthsOf_ok f v W a hok hl)
        have HMD := Lib.hid hmd
        clear hmd hok hl ht1 ht2
        generalize hmm : f.md = md at *
        clear hmm
        have T3s := T3.out.1
        have T3c := T3.out.2
        have T4s := T4.out.1
        have T4c := T4.out.2
        go_wp2_with fail
        clear T3s T3c T4s T4c
        refine (HTI.out _ HM.out HN.out).mono ?_
        rintro e w3 ⟨a5, rfl, S5, hb⟩
        replace h := Lib.hid (h.out.below hb)
        replace HM := Lib.hid (HM.out.below hb)
        replace HN := Lib.hid (HN.out.below hb)
        replace T3 := Lib.hid (T3.out.below hb)
        replace T4 := Lib.hid (T4.out.below hb)
        replace A := Lib.hid (bthen A.out hb)
        clear hb
        obtain ⟨B5, d5, rfl⟩ := S5.opn
        replace S5 := Lib.hid S5.sl
        have T3s := T3.out.1
        have T3c := T3.out.2
        have T4s := T4.out.1
        have T4c := T4.out.2
        go_wp2_with fail
        clear T3s T3c T4s T4c
        refine (HTS.out _ HM.out HN.out).mono ?_
        rintro e w4 ⟨a6, rfl, S6, hb⟩
        replace h := Lib.hid (h.out.below hb)
        replace HM := Lib.hid (HM.out.below hb)
        replace HN := Lib.hid (HN.out.below hb)
        replace T3 := Lib.hid (T3.out.below hb)
        replace T4 := Lib.hid (T4.out.below hb)
        replace S5 := Lib.hid (S5.out.below hb)
        replace A := Lib.hid (bthen A.out hb)
        clear hb
        obtain ⟨B6, d6, rfl⟩ := S6.opn
        replace S6 := Lib.hid S6.sl
        have T3s := T3.out.1
        have T3c := T3.out.2
        have T4s := T4.out.1
        have T4c := T4.out.2
        go_wp2_with fail
        clear T3s T3c T4s T4c
        refine (HRI.out _ HM.out HN.out).mono ?_
        rintro e w5 ⟨rfl, hb⟩
        replace h := Lib.hid (h.out.below hb)
        replace HM := Lib.hid (HM.out.below hb)
        replace HN := Lib.hid (HN.out.below hb)
        replace T3 := Lib.hid (T3.out.below hb)
        replace T4 := Lib.hid (T4.out.below hb)
        replace S5 := Lib.hid (S5.out.below hb)
        replace S6 := Lib.hid (S6.out.below hb)
        replace A := Lib.hid (bthen A.out hb)
        clear hb
        have T3s := T3.out.1
        have T3c := T3.out.2
        have T4s := T4.out.1
        have T4c := T4.out.2
        go_wp2_with fail
        clear T3s T3c T4s T4c
        refine (HRS.out _ HM.out HN.out).mono ?_
        rintro e w6 ⟨rfl, hb⟩
        replace h := Lib.hid (h.out.below hb)
        replace HM := Lib.hid (HM.out.below hb)
        replace HN := Lib.hid (HN.out.below hb)
        replace T3 := Lib.hid (T3.out.below hb)
        replace T4 := Lib.hid (T4.out.below hb)
        replace S5 := Lib.hid (S5.out.below hb)
        replace S6 := Lib.hid (S6.out.below hb)
        replace A := Lib.hid (bthen A.out hb)
        clear hb
        clear HTI HTS HRI HRS
        have HLF := Lib.hid (fun v u W a b => laws_likeFormula5 v u (enc f) W a b (by have := hl2.out; omega))
        go_wp2_with fail
        refine (HLF.out _ _ _ S5.out S6.out).mono ?_
        rintro e w7 ⟨rfl, hb⟩
        replace h := Lib.hid (h.out.below hb)
        replace HM := Lib.hid (HM.out.below hb)
        replace HN := Lib.hid (HN.out.below hb)
        replace T3 := Lib.hid (T3.out.below hb)
        replace T4 := Lib.hid (T4.out.below hb)
        replace S5 := Lib.hid (S5.out.below hb)
        replace S6 := Lib.hid (S6.out.below hb)
        replace A := Lib.hid (bthen A.out hb)
        clear hb
        clear HLF
        have T3s := T3.out.1
        have T3c := T3.out.2
        have T4s := T4.out.1
        have T4c := T4.out.2
        go_wp2_with fail
        clear T3s T3c T4s T4c
        refine (HI1.out _ _ HM.out S6.out).mono ?_
        rintro e w8 ⟨rfl, hb⟩
        replace h := Lib.hid (h.out.below hb)
        replace HM := Lib.hid (HM.out.below hb)
        replace HN := Lib.hid (HN.out.below hb)
        replace T3 := Lib.hid (T3.out.below hb)
        replace T4 := Lib.hid (T4.out.below hb)
        replace S5 := Lib.hid (S5.out.below hb)
        replace S6 := Lib.hid (S6.out.below hb)
        replace A := Lib.hid (bthen A.out hb)
        clear hb
        have T3s := T3.out.1
        have T3c := T3.out.2
        have T4s := T4.out.1
        have T4c := T4.out.2
        go_wp2_with fail
        clear T3s T3c T4s T4c
        refine (HI2.out _ _ HN.out S6.out).mono ?_
        rintro e w9 ⟨rfl, hb⟩
        replace h := Lib.hid (h.out.below hb)
        replace HM := Lib.hid (HM.out.below hb)
        replace HN := Lib.hid (HN.out.below hb)
        replace T3 := Lib.hid (T3.out.below hb)
        replace T4 := Lib.hid (T4.out.below hb)
        replace S5 := Lib.hid (S5.out.below hb)
        replace S6 := Lib.hid (S6.out.below hb)
        replace A := Lib.hid (bthen A.out hb)
        clear hb
        go_wp2_with fail
        refine (HDP.out _ _ S6.out).mono ?_
        rintro e w10 ⟨rfl, hb⟩
        replace h := Lib.hid (h.out.below hb)
        replace HM := Lib.hid (HM.out.below hb)
        replace HN := Lib.hid (HN.out.below hb)
        replace T3 := Lib.hid (T3.out.below hb)
        replace T4 := Lib.hid (T4.out.below hb)
        replace S5 := Lib.hid (S5.out.below hb)
        replace S6 := Lib.hid (S6.out.below hb)
        replace A := Lib.hid (bthen A.out hb)
        clear hb
        have hle := HMD.out
        go_wp2
        go_ret
        exact ⟨by simp [hle], A.out⟩
    · obtain ⟨q, hq⟩ : ∃ q, tcode n L1 L2 x k M1 M2 y = q := ⟨_, rfl⟩
      have hq12 := tcode_vals n L1 L2 x k M1 M2 y
      rw [hq] at hq12
      obtain ⟨A1, c1, rfl⟩ := s1.opn
      have S1 := Lib.hid s1
      obtain ⟨A2, c2, rfl⟩ := s2.opn
      have S2 := Lib.hid s2
      obtain ⟨A3, c3, rfl⟩ := s3.opn
      have S3 := Lib.hid s3
      obtain ⟨A4, c4, rfl⟩ := s4.opn
      have S4 := Lib.hid s4
      have C0 := Lib.hid (fun W a b c d => hq ▸ impl_TellingFormula_bad n x k y (.slice A1 L1.length c1) (.slice A2 L2.length c2) (.slice A3 M1.length c3) (.slice A4 M2.length c4) L1 L2 M1 M2 W a b c d (by omega) (by omega) hc)
      have C1 := Lib.hid (fun W a b c d => hq ▸ spec_TellingFormula_bad n x k y (.slice A1 L1.length c1) (.slice A2 L2.length c2) (.slice A3 M1.length c3) (.slice A4 M2.length c4) L1 L2 M1 M2 W a b c d (by omega) (by omega) hc)
      have C2 := Lib.hid (fun W a b c d => hq ▸ impl_RoundsToTell_bad n x k y (.slice A1 L1.length c1) (.slice A2 L2.length c2) (.slice A3 M1.length c3) (.slice A4 M2.length c4) L1 L2 M1 M2 W a b c d (by omega) (by omega) hc)
      have C3 := Lib.hid (fun W a b c d => hq ▸ spec_RoundsToTell_bad n x k y (.slice A1 L1.length c1) (.slice A2 L2.length c2) (.slice A3 M1.length c3) (.slice A4 M2.length c4) L1 L2 M1 M2 W a b c d (by omega) (by omega) hc)
      rw [hq] at hc
      clear s1 s2 s3 s4 hL1 hL2 hM1 hM2 hn hk HDS h
      go_upto_region 4 with fail
      have hb := bthen (below_alloc' w1 (.cells #[.int .i64 n, .slice A1 L1.length c1, .slice A2 L2.length c2] 28)) (below_alloc' (World.alloc w1 (.cells #[.int .i64 n, .slice A1 L1.length c1, .slice A2 L2.length c2] 28)) (.cells #[.int .i64 k, .slice A3 M1.length c3, .slice A4 M2.length c4] 28))
      have T3 := Lib.hid (Bk.new1 w1 #[.int .i64 n, .slice A1 L1.length c1, .slice A2 L2.length c2] 28 (.cells #[.int .i64 k, .slice A3 M1.length c3, .slice A4 M2.length c4] 28))
      have T4 := Lib.hid (Bk.new2 w1 (.cells #[.int .i64 n, .slice A1 L1.length c1, .slice A2 L2.length c2] 28) #[.int .i64 k, .slice A3 M1.length c3, .slice A4 M2.length c4] 28)
      replace S1 := Lib.hid (S1.out.below hb)
      replace S2 := Lib.hid (S2.out.below hb)
      replace S3 := Lib.hid (S3.out.below hb)
      replace S4 := Lib.hid (S4.out.below hb)
      replace A := Lib.hid (bthen A.out hb)
      clear hb
      generalize World.alloc (World.alloc w1 _) _ = w2 at *
      rcases hq12 with rfl | rfl | rfl
      · exact absurd rfl hc
      · clear hc hq
        have T3s := T3.out.1
        have T3c := T3.out.2
        have T4s := T4.out.1
        have T4c := T4.out.2
        go_wp2_with fail
        clear T3s T3c T4s T4c
        refine (C0.out _ S1.out S2.out S3.out S4.out).mono ?_
        rintro e w3 ⟨rfl, hb⟩
        replace S1 := Lib.hid (S1.out.below hb)
        replace S2 := Lib.hid (S2.out.below hb)
        replace S3 := Lib.hid (S3.out.below hb)
        replace S4 := Lib.hid (S4.out.below hb)
        replace T3 := Lib.hid (T3.out.below hb)
        replace T4 := Lib.hid (T4.out.below hb)
        replace A := Lib.hid (bthen A.out hb)
        clear hb
        have T3s := T3.out.1
        have T3c := T3.out.2
        have T4s := T4.out.1
        have T4c := T4.out.2
        go_wp2_with fail
        clear T3s T3c T4s T4c
        refine (C1.out _ S1.out S2.out S3.out S4.out).mono ?_
        rintro e w4 ⟨rfl, hb⟩
        replace S1 := Lib.hid (S1.out.below hb)
        replace S2 := Lib.hid (S2.out.below hb)
        replace S3 := Lib.hid (S3.out.below hb)
        replace S4 := Lib.hid (S4.out.below hb)
        replace T3 := Lib.hid (T3.out.below hb)
        replace T4 := Lib.hid (T4.out.below hb)
        replace A := Lib.hid (bthen A.out hb)
        clear hb
        have T3s := T3.out.1
        have T3c := T3.out.2
        have T4s := T4.out.1
        have T4c := T4.out.2
        go_wp2_with fail
        clear T3s T3c T4s T4c
        refine (C2.out _ S1.out S2.out S3.out S4.out).mono ?_
        rintro e w5 ⟨rfl, hb⟩
        replace S1 := Lib.hid (S1.out.below hb)
        replace S2 := Lib.hid (S2.out.below hb)
        replace S3 := Lib.hid (S3.out.below hb)
        replace S4 := Lib.hid (S4.out.below hb)
        replace T3 := Lib.hid (T3.out.below hb)
        replace T4 := Lib.hid (T4.out.below hb)
        replace A := Lib.hid (bthen A.out hb)
        clear hb
        have T3s := T3.out.1
        have T3c := T3.out.2
        have T4s := T4.out.1
        have T4c := T4.out.2
        go_wp2_with fail
        clear T3s T3c T4s T4c
        refine (C3.out _ S1.out S2.out S3.out S4.out).mono ?_
        rintro e w6 ⟨rfl, hb⟩
        replace S1 := Lib.hid (S1.out.below hb)
        replace S2 := Lib.hid (S2.out.below hb)
        replace S3 := Lib.hid (S3.out.below hb)
        replace S4 := Lib.hid (S4.out.below hb)
        replace T3 := Lib.hid (T3.out.below hb)
        replace T4 := Lib.hid (T4.out.below hb)
        replace A := Lib.hid (bthen A.out hb)
        clear hb
        clear C0 C1 C2 C3
        go_wp2_with fail
        refine (laws_likeFormula5 _ _ [] _ Sl.nil Sl.nil (by simp)).mono ?_
        rintro e w7 ⟨rfl, hb⟩
        replace S1 := Lib.hid (S1.out.below hb)
        replace S2 := Lib.hid (S2.out.below hb)
        replace S3 := Lib.hid (S3.out.below hb)
        replace S4 := Lib.hid (S4.out.below hb)
        replace T3 := Lib.hid (T3.out.below hb)
        replace T4 := Lib.hid (T4.out.below hb)
        replace A := Lib.hid (bthen A.out hb)
        clear hb
        go_wp2
        go_ret
        exact ⟨rfl, A.out⟩
      · clear hc hq
        have T3s := T3.out.1
        have T3c := T3.out.2
        have T4s := T4.out.1
        have T4c := T4.out.2
        go_wp2_with fail
        clear T3s T3c T4s T4c
        refine (C0.out _ S1.out S2.out S3.out S4.out).mono ?_
        rintro e w3 ⟨rfl, hb⟩
        replace S1 := Lib.hid (S1.out.below hb)
        replace S2 := Lib.hid (S2.out.below hb)
        replace S3 := Lib.hid (S3.out.below hb)
        replace S4 := Lib.hid (S4.out.below hb)
        replace T3 := Lib.hid (T3.out.below hb)
        replace T4 := Lib.hid (T4.out.below hb)
        replace A := Lib.hid (bthen A.out hb)
        clear hb
        have T3s := T3.out.1
        have T3c := T3.out.2
        have T4s := T4.out.1
        have T4c := T4.out.2
        go_wp2_with fail
        clear T3s T3c T4s T4c
        refine (C1.out _ S1.out S2.out S3.out S4.out).mono ?_
        rintro e w4 ⟨rfl, hb⟩
        replace S1 := Lib.hid (S1.out.below hb)
        replace S2 := Lib.hid (S2.out.below hb)
        replace S3 := Lib.hid (S3.out.below hb)
        replace S4 := Lib.hid (S4.out.below hb)
        replace T3 := Lib.hid (T3.out.below hb)
        replace T4 := Lib.hid (T4.out.below hb)
        replace A := Lib.hid (bthen A.out hb)
        clear hb
        have T3s := T3.out.1
        have T3c := T3.out.2
        have T4s := T4.out.1
        have T4c := T4.out.2
        go_wp2_with fail
        clear T3s T3c T4s T4c
        refine (C2.out _ S1.out S2.out S3.out S4.out).mono ?_
        rintro e w5 ⟨rfl, hb⟩
        replace S1 := Lib.hid (S1.out.below hb)
        replace S2 := Lib.hid (S2.out.below hb)
        replace S3 := Lib.hid (S3.out.below hb)
        replace S4 := Lib.hid (S4.out.below hb)
        replace T3 := Lib.hid (T3.out.below hb)
        replace T4 := Lib.hid (T4.out.below hb)
        replace A := Lib.hid (bthen A.out hb)
        clear hb
        have T3s := T3.out.1
        have T3c := T3.out.2
        have T4s := T4.out.1
        have T4c := T4.out.2
        go_wp2_with fail
        clear T3s T3c T4s T4c
        refine (C3.out _ S1.out S2.out S3.out S4.out).mono ?_
        rintro e w6 ⟨rfl, hb⟩
        replace S1 := Lib.hid (S1.out.below hb)
        replace S2 := Lib.hid (S2.out.below hb)
        replace S3 := Lib.hid (S3.out.below hb)
        replace S4 := Lib.hid (S4.out.below hb)
        replace T3 := Lib.hid (T3.out.below hb)
        replace T4 := Lib.hid (T4.out.below hb)
        replace A := Lib.hid (bthen A.out hb)
        clear hb
        clear C0 C1 C2 C3
        go_wp2_with fail
        refine (laws_likeFormula5 _ _ [] _ Sl.nil Sl.nil (by simp)).mono ?_
        rintro e w7 ⟨rfl, hb⟩
        replace S1 := Lib.hid (S1.out.below hb)
        replace S2 := Lib.hid (S2.out.below hb)
        replace S3 := Lib.hid (S3.out.below hb)
        replace S4 := Lib.hid (S4.out.below hb)
        replace T3 := Lib.hid (T3.out.below hb)
        replace T4 := Lib.hid (T4.out.below hb)
        replace A := Lib.hid (bthen A.out hb)
        clear hb
        go_wp2
        go_ret
        exact ⟨rfl, A.out⟩
end Go.Proofs.YtnolbgdbboiehaaGreat

/- Joined of several texts: 14r, 14s. -/
import Derived.Test.YtboldkahppdmbaaGreatDoorEB
import Derived.Test.YtboldkahppdmbaaGreatDoorJ05
import Derived.Test.YtboldkahppdmbaaGreatDoorQU
namespace Go.Proofs.YtboldkahppdmbaaGreatDoor
open Go.RowKit
set_option linter.unusedVariables false
set_option linter.unusedSimpArgs false
/- Contracts of chapter 14, of the reference: l14May. Written by gen14r.py. -/
/-- a space that reads as that of a model and a formula -/
structure SpR (w : World) (ns us : List Nat) (f : Fm) (A0 A1 : Option Addr) (c0 c1 : Nat) (cls fst bo inn out : Value) : Prop where
  md : Mdl w (.slice A0 ns.length c0) (.slice A1 6 c1) ns us
  cl : Sl cI w cls (li (acl ns us f))
  fs : Sl cI w fst (li (afw ns us f))
  bo : Sl cB w bo (m1 (mds ns us f (enc f).length))
  inn : Sl cI w inn (li (m3 (mds ns us f (enc f).length)))
  out : Sl cI w out (li (m2 (mds ns us f (enc f).length)))
theorem SpR.below {w w' : World} {ns us : List Nat} {f : Fm} {A0 A1 : Option Addr} {c0 c1 : Nat} {cls fst bo inn out : Value} (h : SpR w ns us f A0 A1 c0 c1 cls fst bo inn out) (hb : Below w.heap.size w w') : SpR w' ns us f A0 A1 c0 c1 cls fst bo inn out :=
  ⟨h.md.below hb, h.cl.below hb, h.fs.below hb, h.bo.below hb, h.inn.below hb, h.out.below hb⟩
def py (more : Bool) (e : Bool × Nat × Nat) (w v : Nat) : Bool := if e.1 then !(e.2.1.testBit w && (!e.2.2.testBit v || more && !e.2.1.testBit v)) else !(!e.2.1.testBit w && (e.2.2.testBit v || more && e.2.1.testBit v))
theorem may_py (L : List (Bool × Nat × Nat)) (more : Bool) (w v : Nat) : may L more w v = L.all fun e => py more e w v := rfl
set_option maxHeartbeats 2000000 in
set_option maxRecDepth 100000 in
theorem spec_l14May (ns us : List Nat) (f : Fm) (A0 A1 : Option Addr) (c0 c1 : Nat) (cls fst bo inn out : Value) (x y : Nat) (more : Bool) (w : World) (h : SpR w ns us f A0 A1 c0 c1 cls fst bo inn out) (h1 : MdN ns us) (hl : (enc f).length ≤ 1000) (hx : x ≤ 8) (hy : y ≤ 8) :
    Calls Tryz.prog 94 #[.agg #[.int .i64 ns.length, .slice A0 ns.length c0, .slice A1 6 c1, cls, fst, bo, inn, out], .int .i64 x, .int .i64 y, .bool more] w fun e w' => e = .returned (.bool (may (mds ns us f (enc f).length) more x y)) ∧ Below w.heap.size w w' := by
  have hml := mds_length ns us f (enc f).length
  have hmb : ∀ e ∈ mds ns us f (enc f).length, e.2.1 < 256 ∧ e.2.2 < 256 := fun e he => by
    obtain ⟨p, q⟩ := mds_lt ns us h1.b f _ (Nat.le_refl _) e he
    have := two_pow_256 h1.r.1
    omega
  rw [may_py]
  obtain ⟨hc1, hc2, hc3⟩ := And.intro h.bo (And.intro h.inn h.out)
  obtain ⟨Ac, nc, cc, rfl⟩ : ∃ a n c, cls = .slice a n c := by obtain ⟨a, c, e⟩ := h.cl.opn; exact ⟨a, _, c, e⟩
  obtain ⟨Af, nf, cf, rfl⟩ : ∃ a n c, fst = .slice a n c := by obtain ⟨a, c, e⟩ := h.fs.opn; exact ⟨a, _, c, e⟩
  clear h
  generalize mds ns us f (enc f).length = L at *
  obtain ⟨Ab, cb, rfl⟩ := hc1.opn
  obtain ⟨Ai, ci, rfl⟩ := hc2.opn
  obtain ⟨Ao, co, rfl⟩ := hc3.opn
  have l1 : (m1 L).length = L.length := by simp [m1]
  have l2 : (li (m3 L)).length = L.length := by rw [li_length]; simp [m3]
  have l3 : (li (m2 L)).length = L.length := by rw [li_length]; simp [m2]
  have E1 := Lib.hid l1
  have E2 := Lib.hid l2
  have E3 := Lib.hid l3
  have hb0 := below_alloc' w (.cells #[.int .i64 ns.length, .slice A0 ns.length c0, .slice A1 6 c1, .slice Ac nc cc, .slice Af nf cf, .slice Ab (m1 L).length cb, .slice Ai (li (m3 L)).length ci, .slice Ao (li (m2 L)).length co] 59)
  have HK := Lib.hid (Blk.new w 59 #[.int .i64 ns.length, .slice A0 ns.length c0, .slice A1 6 c1, .slice Ac nc cc, .slice Af nf cf, .slice Ab (m1 L).length cb, .slice Ai (li (m3 L)).length ci, .slice Ao (li (m2 L)).length co])
  have HB := Lib.hid hb0
  have H1 := Lib.hid (hc1.below hb0)
  have H2 := Lib.hid (hc2.below hb0)
  have H3 := Lib.hid (hc3.below hb0)
  have HMB := Lib.hid hmb
  rw [l1, l2, l3] at HK HB H1 H2 H3 ⊢
  clear hc1 hc2 hc3 hb0 hmb l1 l2 l3 h1
  go_enter Tryz.func94, Tryz.ntmps94
  go_upto_region 1 with fail
  generalize World.alloc w _ = W at *
  have k0 := HK.out.cell
  have l0 := HK.out.lt
  go_wp2
  go_loop [9] (fun i => ∃ j : Nat, j ≤ L.length ∧ i = .int .i64 j ∧ (L.take j).all (fun e => py more e x y) = true) (fun i => L.length - (intOf i).toNat)
  case atStart => exact ⟨0, Nat.zero_le _, rfl, rfl⟩
  case round =>
    obtain ⟨j, hj, rfl, hh⟩ := hrel
    have HH := Lib.hid hh
    clear hh
    by_cases hlt : j < L.length
    · obtain ⟨b1, o1, rfl, hbl1, hv1⟩ := (show Sl cB W (.slice Ab (m1 L).length cb) (m1 L) by rw [E1.out]; exact H1.out).atB (k := j) (by rw [E1.out]; exact hlt)
      obtain ⟨b2, o2, rfl, hbl2, hv2⟩ := (show Sl cI W (.slice Ai (li (m3 L)).length ci) (li (m3 L)) by rw [E2.out]; exact H2.out).atI (k := j) (by rw [E2.out]; exact hlt)
      obtain ⟨b3, o3, rfl, hbl3, hv3⟩ := (show Sl cI W (.slice Ao (li (m2 L)).length co) (li (m2 L)) by rw [E3.out]; exact H3.out).atI (k := j) (by rw [E3.out]; exact hlt)
      rw [li_get] at hv2 hv3
      obtain ⟨b, o, q, he⟩ : ∃ b o q, L[j] = (b, o, q) := ⟨_, _, _, rfl⟩
      have e1 : (m1 L)[j]'(by rw [E1.out]; exact hlt) = b := by simp [m1, he]
      have e2 : (m3 L).getD j 0 = q := by simp [m3, hlt, he]
      have e3 : (m2 L).getD j 0 = o := by simp [m2, hlt, he]
      rw [e1] at hv1
      rw [e2] at hv2
      rw [e3] at hv3
      obtain ⟨ho8, hq8⟩ := HMB.out _ (List.getElem_mem hlt)
      rw [he] at ho8 hq8
      simp only at ho8 hq8
      have HYES : Hid (py more (b, o, q) x y = true → (L.take (j + 1)).all (fun e => py more e x y) = true) := Lib.hid (fun hp => by
        rw [List.take_succ_eq_append_getElem hlt, List.all_append, HH.out, he]
        simp [hp])
      have HNO : Hid (py more (b, o, q) x y = false → L.all (fun e => py more e x y) = false) := Lib.hid (fun hp => by
        rw [← Bool.not_eq_true, List.all_eq_true]
        intro hall
        have := hall _ (List.getElem_mem hlt)
        rw [he, hp] at this
        cases this)
      clear e1 e2 e3 he HH
      cases b
      ·
        cases how : o.testBit x
        ·
          cases hiv : q.testBit y
          ·
            cases more
            ·
              have HP : Hid (py false (false, o, q) x y = true) := Lib.hid (by simp [py, how, hiv])
              go_wp2_with (go_at_call 32; refine (spec_l01Bit _ _ _ (by omega) (by omega)).mono ?_; rintro e w1 ⟨rfl, rfl⟩)
              go_round
              case rel => exact ⟨j + 1, by omega, by go_num, HYES.out HP.out⟩
              case measure => simp [intOf]; omega
            ·
              cases hov : o.testBit y
              ·
                have HP : Hid (py true (false, o, q) x y = true) := Lib.hid (by simp [py, how, hiv, hov])
                go_wp2_with (go_at_call 32; refine (spec_l01Bit _ _ _ (by omega) (by omega)).mono ?_; rintro e w1 ⟨rfl, rfl⟩)
                go_round
                case rel => exact ⟨j + 1, by omega, by go_num, HYES.out HP.out⟩
                case measure => simp [intOf]; omega
              ·
                have HP : Hid (py true (false, o, q) x y = false) := Lib.hid (by simp [py, how, hiv, hov])
                go_wp2_with (go_at_call 32; refine (spec_l01Bit _ _ _ (by omega) (by omega)).mono ?_; rintro e w1 ⟨rfl, rfl⟩)
                go_ret
                exact ⟨by rw [HNO.out HP.out]; rfl, HB.out⟩
          ·
            have HP : Hid (py more (false, o, q) x y = false) := Lib.hid (by simp [py, how, hiv])
            go_wp2_with (go_at_call 32; refine (spec_l01Bit _ _ _ (by omega) (by omega)).mono ?_; rintro e w1 ⟨rfl, rfl⟩)
            go_ret
            exact ⟨by rw [HNO.out HP.out]; rfl, HB.out⟩
        ·
          have HP : Hid (py more (false, o, q) x y = true) := Lib.hid (by simp [py, how])
          go_wp2_with (go_at_call 32; refine (spec_l01Bit _ _ _ (by omega) (by omega)).mono ?_; rintro e w1 ⟨rfl, rfl⟩)
          go_round
          case rel => exact ⟨j + 1, by omega, by go_num, HYES.out HP.out⟩
          case measure => simp [intOf]; omega
      ·
        cases how : o.testBit x
        ·
          have HP : Hid (py more (true, o, q) x y = true) := Lib.hid (by simp [py, how])
          go_wp2_with (go_at_call 32; refine (spec_l01Bit _ _ _ (by omega) (by omega)).mono ?_; rintro e w1 ⟨rfl, rfl⟩)
          go_round
          case rel => exact ⟨j + 1, by omega, by go_num, HYES.out HP.out⟩
          case measure => simp [intOf]; omega
        ·
          cases hiv : q.testBit y
          ·
            have HP : Hid (py more (true, o, q) x y = false) := Lib.hid (by simp [py, how, hiv])
            go_wp2_with (go_at_call 32; refine (spec_l01Bit _ _ _ (by omega) (by omega)).mono ?_; rintro e w1 ⟨rfl, rfl⟩)
            go_ret
            exact ⟨by rw [HNO.out HP.out]; rfl, HB.out⟩
          ·
            cases more
            ·
              have HP : Hid (py false (true, o, q) x y = true) := Lib.hid (by simp [py, how, hiv])
              go_wp2_with (go_at_call 32; refine (spec_l01Bit _ _ _ (by omega) (by omega)).mono ?_; rintro e w1 ⟨rfl, rfl⟩)
              go_round
              case rel => exact ⟨j + 1, by omega, by go_num, HYES.out HP.out⟩
              case measure => simp [intOf]; omega
            ·
              cases hov : o.testBit y
              ·
                have HP : Hid (py true (true, o, q) x y = false) := Lib.hid (by simp [py, how, hiv, hov])
                go_wp2_with (go_at_call 32; refine (spec_l01Bit _ _ _ (by omega) (by omega)).mono ?_; rintro e w1 ⟨rfl, rfl⟩)
                go_ret
                exact ⟨by rw [HNO.out HP.out]; rfl, HB.out⟩
              ·
                have HP : Hid (py true (true, o, q) x y = true) := Lib.hid (by simp [py, how, hiv, hov])
                go_wp2_with (go_at_call 32; refine (spec_l01Bit _ _ _ (by omega) (by omega)).mono ?_; rintro e w1 ⟨rfl, rfl⟩)
                go_round
                case rel => exact ⟨j + 1, by omega, by go_num, HYES.out HP.out⟩
                case measure => simp [intOf]; omega
    · have HE : Hid (L.all (fun e => py more e x y) = true) := Lib.hid (by have := HH.out; rwa [List.take_of_length_le (by omega)] at this)
      go_wp2
      go_ret
      exact ⟨by rw [HE.out]; rfl, HB.out⟩
/- Contracts of chapter 14, of the reference: l14Least. -/
set_option maxHeartbeats 2000000 in
set_option maxRecDepth 100000 in
theorem spec_l14Least (ns us cl : List Nat) (fs : List Int) (n : Nat) (A0 A1 A2 A3 : Option Addr) (c0 c1 c2 c3 : Nat) (Ab Ai Ao : Option Addr) (nb cb ni ci no co : Nat) (w : World) (hm : Mdl w (.slice A0 ns.length c0) (.slice A1 6 c1) ns us) (h1 : MdN ns us)
    (hcl : Sl cI w (.slice A2 ns.length c2) (li cl)) (hlc : cl.length = ns.length) (hc : ∀ c ∈ cl, c < n) (hn8 : n ≤ 8) :
    Calls Tryz.prog 49 #[.agg #[.int .i64 ns.length, .slice A0 ns.length c0, .slice A1 6 c1, .slice A2 ns.length c2, .slice A3 n c3, .slice Ab nb cb, .slice Ai ni ci, .slice Ao no co]] w
      fun e w' => ∃ u, e = .returned u ∧ Ow cI 2 w.heap.size w' u (li (qrl cl ns n ns.length)) ∧ Below w.heap.size w w' := by
  have h8 := h1.r.1
  have hb0 := below_alloc' w (.cells #[.int .i64 ns.length, .slice A0 ns.length c0, .slice A1 6 c1, .slice A2 ns.length c2, .slice A3 n c3, .slice Ab nb cb, .slice Ai ni ci, .slice Ao no co] 59)
  have hk0 := Blk.new w 59 #[.int .i64 ns.length, .slice A0 ns.length c0, .slice A1 6 c1, .slice A2 ns.length c2, .slice A3 n c3, .slice Ab nb cb, .slice Ai ni ci, .slice Ao no co]
  have HB := Lib.hid hb0
  have HK0 := Lib.hid hk0
  have HN := Lib.hid hm.a
  have HC := Lib.hid hcl
  have LN := Lib.hid (li_length ns)
  have LC := Lib.hid (show (li cl).length = ns.length by rw [li_length, hlc])
  have HL := Lib.hid hlc
  have HCN : Hid (∀ j : Nat, j < ns.length → cl.getD j 0 < n) := Lib.hid (fun j hj => hc _ (getD_mem (by omega)))
  have H8 : ∀ c ∈ cl, c < 8 := fun c h => Nat.lt_of_lt_of_le (hc c h) hn8
  replace H8 := Lib.hid H8
  clear hb0 hk0 hm hcl hlc hc
  go_enter Tryz.func49, Tryz.ntmps49
  go_upto_region 1 with fail
  generalize World.alloc w _ = W at *
  have k0 := HK0.out.cell
  have l0 := HK0.out.lt
  go_wp2_with (at_make; refine stopHere ?_)
  refine goHere ?_
  refine mk_full (K := cI) W ty_int64 rfl _ _ rfl W.heap.size n 0 rfl rfl rfl (by omega) (Nat.le_refl _) ?_
  intro w1 ho1 hg1 hb1 hz1
  have EZ1 : List.replicate n (0 : Int) = li (qrl cl ns n 0) := by rw [qrl]; unfold li; rw [List.map_replicate]; rfl
  rw [EZ1] at ho1
  have HO1 := Lib.hid ho1
  have HBV := Lib.hid hb1
  have hW0 := HB.out.size
  have hw0 := HB.out.size
  clear ho1 hg1 hb1 EZ1 k0
  have HONE : Hid (∀ (d : Nat) (V : World), d < 8 → Calls Tryz.prog 33 #[.int .i64 (d : Int)] V fun e w' => e = .returned (.int .i64 ((2 : Int) ^ d)) ∧ w' = V) := Lib.hid (fun d V hd => (spec_l01One d V (by omega) (by omega)).mono fun e w' ⟨he, hw⟩ => ⟨by rw [he, Int.toNat_natCast], hw.symm⟩)
  have HM : Hid (∀ V, Below W.heap.size W V → Blk V w.heap.size 59 #[.int .i64 ns.length, .slice A0 ns.length c0, .slice A1 6 c1, .slice A2 ns.length c2, .slice A3 n c3, .slice Ab nb cb, .slice Ai ni ci, .slice Ao no co] ∧ Sl cI V (.slice A0 (li ns).length c0) (li ns) ∧ Sl cI V (.slice A2 (li cl).length c2) (li cl)) := Lib.hid (fun V hV => by
    rw [LN.out, LC.out]
    exact ⟨HK0.out.below hV HK0.out.lt, HN.out.below (HB.out.trans (hV.mono hW0)), HC.out.below (HB.out.trans (hV.mono hW0))⟩)
  have HNB : Hid (∀ i, ns.getD i 0 < 256) := Lib.hid h1.n256
  have HQL := Lib.hid (fun j => qrl_length cl ns n j)
  have HPW : Hid (∀ m k, imgTo (pw cl) m k < 2 ^ 8) := Lib.hid (fun m k => imgTo_lt (pw_lt H8.out) m k)
  have HQB : Hid (∀ j, ∀ x ∈ qrl cl ns n j, x < 2 ^ 8) := Lib.hid (fun j => by
    induction j with
    | zero => intro x hx; rw [qrl] at hx; rw [List.eq_of_mem_replicate hx]; decide
    | succ j ih => exact qst_lt ih _ (imgTo_lt (pw_lt H8.out) _ _))
  have H1 := Lib.hid h1
  clear h1 HK0 HN HC
  generalize W.heap.size = g1 at *
  go_wp2
  go_loopw [4] (fun i wr => ∃ x : Nat, x ≤ ns.length ∧ i = .int .i64 x ∧ Ow cI 2 g1 wr (.slice (some ⟨g1, 0, none⟩) n n) (li (qrl cl ns n x)) ∧ Below g1 W wr) (fun i _ => ns.length - (intOf i).toNat)
  case atStart => exact ⟨0, Nat.zero_le _, rfl, HO1.out, HBV.out⟩
  case round =>
    obtain ⟨x, hx, rfl, ho1, hb⟩ := hrel
    clear HO1 HBV
    have HO1 := Lib.hid ho1
    have HBx := Lib.hid hb
    have k0 := (HM.out _ hb).1.cell
    have l1 := (HM.out _ hb).1.lt
    clear ho1 hb
    by_cases hxn : x < ns.length
    · go_wp2
      clear k0 l1
      go_loopw [5] (fun i wr => ∃ y : Nat, y ≤ ns.length ∧ i = .int .i64 y ∧ Ow cI 2 g1 wr (.slice (some ⟨g1, 0, none⟩) n n) (li (qst (qrl cl ns n x) (cl.getD x 0) (imgTo (pw cl) (ns.getD x 0) y))) ∧ Below g1 W wr) (fun i _ => ns.length - (intOf i).toNat)
      case atStart => exact ⟨0, Nat.zero_le _, rfl, by rw [imgTo, qst_zero]; exact HO1.out, HBx.out⟩
      case round =>
        obtain ⟨y, hy, rfl, ho1, hb⟩ := hrel
        clear HO1 HBx
        have HO1 := Lib.hid ho1
        have HBy := Lib.hid hb
        obtain ⟨hmk, hma, hmc⟩ := HM.out _ hb
        have k0 := hmk.cell
        have l1 := hmk.lt
        clear ho1 hb hmk
        by_cases hyn : y < ns.length
        · obtain ⟨b0, o0, hA0, hbl0, hc0⟩ := hma.atI (k := x) (by rw [LN.out]; exact hxn)
          obtain ⟨b2, o2, hA2, hbl2, hd0⟩ := hmc.atI (k := x) (by rw [LC.out]; exact hxn)
          obtain ⟨b3, o3, hA3, hbl3, hd1⟩ := hmc.atI (k := y) (by rw [LC.out]; exact hyn)
          subst hA0
          subst hA2
          injection hA3 with hA3
          injection hA3 with hA3 hA4
          subst hA3
          subst hA4
          rw [li_get] at hc0 hd0 hd1
          have HS := Lib.hid (imgTo_pw_step (cl := cl) (ns.getD x 0) (y := y) (by rw [HL.out]; exact hyn))
          have hm256 := HNB.out x
          have hc8 := HCN.out x hxn
          have hd8 := HCN.out y hyn
          have hgc := HQL.out x
          have hrl : (li (qst (qrl cl ns n x) (cl.getD x 0) (imgTo (pw cl) (ns.getD x 0) y))).length = n := by rw [li_length, qst_length]; exact HQL.out x
          have hq := getD_lt (qst_lt (HQB.out x) (cl.getD x 0) (HPW.out (ns.getD x 0) y)) (cl.getD x 0)
          have HQQ : Hid (qst (qrl cl ns n x) (cl.getD x 0) (imgTo (pw cl) (ns.getD x 0) y ||| 2 ^ cl.getD y 0) = qst (qst (qrl cl ns n x) (cl.getD x 0) (imgTo (pw cl) (ns.getD x 0) y)) (cl.getD x 0) (2 ^ cl.getD y 0)) := Lib.hid (qst_qst _ _ _ _ (by rw [hgc]; exact hc8)).symm
          obtain ⟨m, hmm⟩ : ∃ m, ns.getD x 0 = m := ⟨_, rfl⟩
          obtain ⟨c, hcc⟩ : ∃ c, cl.getD x 0 = c := ⟨_, rfl⟩
          obtain ⟨d, hdd⟩ : ∃ d, cl.getD y 0 = d := ⟨_, rfl⟩
          rw [hmm] at hc0 hm256 HS HQQ hrl hq HO1
          rw [hcc] at hd0 hc8 hrl hq HQQ HO1
          rw [hdd] at hd1 hd8 HS HQQ
          have HMM := Lib.hid hmm
          have HCC := Lib.hid hcc
          rw [HMM.out, HCC.out]
          obtain ⟨t, htt⟩ : ∃ t, imgTo (pw cl) m y = t := ⟨_, rfl⟩
          rw [htt] at HS HQQ hrl hq HO1
          obtain ⟨r, hrr⟩ : ∃ r, qst (qrl cl ns n x) c t = r := ⟨_, rfl⟩
          rw [hrr] at hrl hq HO1 HQQ
          have HRR := Lib.hid hrr
          have HTT := Lib.hid htt
          have HRL := Lib.hid hrl
          clear hmm hcc hdd htt hrr hma hmc hgc hrl
          go_wp2_with fail
          refine (spec_l01Bit m y _ (by omega) (by omega)).mono ?_
          rintro e w3 ⟨rfl, rfl⟩
          cases ht : m.testBit y
          · rw [if_neg (by rw [ht]; decide)] at HS
            clear ht
            go_wp2
            go_roundw
            case rel => exact ⟨y + 1, by omega, by go_num, by rw [HS.out, HRR.out]; exact HO1.out, HBy.out⟩
            case measure => simp [intOf]; omega
          · rw [if_pos ht] at HS
            obtain ⟨z, hzz⟩ : ∃ z, r.getD c 0 = z := ⟨_, rfl⟩
            have hod := HO1.out.below (Below.refl _ _).drew
            obtain ⟨k1, -, -, -⟩ := HO1.out.at1 rfl (j := c) (by rw [HRL.out]; exact hc8) rfl
            obtain ⟨k4, f4, -, l4⟩ := hod.at1 rfl (j := c) (by rw [HRL.out]; exact hc8) rfl
            rw [li_get, hzz] at k1 k4
            rw [hzz] at hq
            have HQ2 : Hid (qst (qrl cl ns n x) c (imgTo (pw cl) m (y + 1)) = r.set c (z ||| 2 ^ d)) := Lib.hid (by rw [HS.out, HQQ.out, qst, hzz])
            have hset := Lib.hid (hod.set1 (j := c) (x := ((z ||| 2 ^ d : Nat) : Int)) (u := .int .i64 (z ||| 2 ^ d : Nat)) rfl rfl (by rw [HRL.out]; exact hc8))
            rw [li_set, ← HQ2.out] at hset
            have hbs := Lib.hid (HBy.out.drew.setCell (p := ⟨g1, c, none⟩) (HO1.out.block g1 rfl).1 (.int .i64 (z ||| 2 ^ d : Nat)))
            have e2 := i64_or_nat z (2 ^ d) (by omega) (two_pow_lt (by omega))
            rw [← cast_two_pow] at e2
            have i1 : (c : Int) < (n : Int) := by omega
            have i2 : (x : Int) < (ns.length : Int) := by omega
            have i3 : (y : Int) < (ns.length : Int) := by omega
            clear ht hzz hod
            go_wp2
            go_still_tail 22, (by kernel_rfl)
            still_call (HONE.out d _ (by omega))
            repeat still_step
            refine wpStill_nil ?_
            change wpList _ _ _ _ _ (World.drew _)
            clear k1
            generalize World.drew _ = w4 at *
            go_wp2
            go_roundw
            case rel => exact ⟨y + 1, by omega, by go_num, hset.out, hbs.out⟩
            case measure => simp [intOf]; omega
        · obtain rfl : y = ns.length := by omega
          have HE : Hid (qst (qrl cl ns n x) (cl.getD x 0) (imgTo (pw cl) (ns.getD x 0) ns.length) = qrl cl ns n (x + 1)) := Lib.hid (by rw [qrl, img, pw_length, HL.out])
          rw [HE.out] at HO1
          clear hma hmc HE
          go_wp2
          go_roundw
          case rel => exact ⟨x + 1, by omega, by go_num, HO1.out, HBy.out⟩
          case measure => simp [intOf]; omega
    · obtain rfl : x = ns.length := by omega
      go_wp2
      go_ret
      exact ⟨_, rfl, HO1.out.mono hw0, HB.out.trans (HBx.out.mono hw0)⟩
end Go.Proofs.YtboldkahppdmbaaGreatDoor

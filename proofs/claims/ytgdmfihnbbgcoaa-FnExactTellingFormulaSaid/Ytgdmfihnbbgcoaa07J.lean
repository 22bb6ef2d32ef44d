/- TellingFormula of the reference. -/
import Derived.Test.Ytgdmfihnbbgcoaa07I
import Derived.Test.Ytgdmfihnbbgcoaa33c
namespace Go.Proofs.Ytgdmfihnbbgcoaa
open Go.RowKit
set_option linter.unusedVariables false
set_option linter.unusedSimpArgs false
set_option maxRecDepth 100000 in
theorem spec_TellingFormula_bad (n x k y : Int) (va vu vb vt : Value) (xs vs ys ts : List Int) (w : World) (ha : Sl cI w va xs) (hu : Sl cI w vu vs) (hb : Sl cI w vb ys) (ht : Sl cI w vt ts) (hl : xs.length + vs.length ≤ 1048576) (hl' : ys.length + ts.length ≤ 1048576) (hc : tcode n xs vs x k ys ts y ≠ 0) :
    Calls Try.prog 33 #[.agg #[.int .i64 n, va, vu], .int .i64 x, .agg #[.int .i64 k, vb, vt], .int .i64 y] w fun e w' => e = .returned (.tuple #[.slice none 0 0, .int .i64 (tcode n xs vs x k ys ts y)]) ∧ Below w.heap.size w w' := by
  obtain ⟨A0, c0, rfl⟩ := ha.opn
  obtain ⟨A1, c1, rfl⟩ := hu.opn
  obtain ⟨B0, d0, rfl⟩ := hb.opn
  obtain ⟨B1, d1, rfl⟩ := ht.opn
  have hb0 := below_alloc' w (.cells #[.int .i64 n, .slice A0 xs.length c0, .slice A1 vs.length c1] 62)
  have hk0 := Blk.new w 62 #[.int .i64 n, .slice A0 xs.length c0, .slice A1 vs.length c1]
  have hb1 := below_alloc' (w.alloc (.cells #[.int .i64 n, .slice A0 xs.length c0, .slice A1 vs.length c1] 62)) (.cells #[.int .i64 k, .slice B0 ys.length d0, .slice B1 ts.length d1] 62)
  have hk1 : Blk _ (w.heap.size + 1) _ _ := Blk.new' (w.alloc (.cells #[.int .i64 n, .slice A0 xs.length c0, .slice A1 vs.length c1] 62)) 62 #[.int .i64 k, .slice B0 ys.length d0, .slice B1 ts.length d1] (by simp)
  have hbb := bthen hb0 hb1
  have HB := Lib.hid hbb
  have HK0 := Lib.hid (hk0.below hb1 hk0.lt)
  have HK1 := Lib.hid hk1
  have HC := Lib.hid (fun W (hW : Below w.heap.size w W) => spec_l07Places n x k y _ _ _ _ xs vs ys ts W (ha.below hW) (hu.below hW) (hb.below hW) (ht.below hW) hl hl')
  have hc' : (tcode n xs vs x k ys ts y != 0) = true := by simpa using hc
  generalize tcode n xs vs x k ys ts y = q at *
  clear hb0 hb1 hk0 hk1 hbb ha hu hb ht hc
  go_enter Try.func33, Try.ntmps33
  go_upto_region 1 with fail
  generalize World.alloc (w.alloc _) _ = W at *
  have k0 := HK0.out.cell
  have k1 := HK1.out.cell
  have l0 := HK0.out.lt
  have l1 := HK1.out.lt
  go_wp2_with fail
  refine (HC.out _ HB.out).mono ?_
  rintro e w1 ⟨rfl, hb⟩
  have HB1 := Lib.hid (bthen HB.out hb)
  clear hb k0 k1 l0 l1
  go_wp2
  go_ret2
  exact ⟨rfl, HB1.out⟩
set_option maxRecDepth 100000 in
theorem spec_TellingFormula_ok (ns us ks ts : List Nat) (x y : Nat) (A0 A1 B0 B1 : Option Addr) (c0 c1 d0 d1 : Nat) (w : World) (hm : Mdl w (.slice A0 ns.length c0) (.slice A1 6 c1) ns us) (hm2 : Mdl w (.slice B0 ks.length d0) (.slice B1 6 d1) ks ts) (h1 : MdN ns us) (h2 : MdN ks ts) (hc : tcode ns.length (li ns) (li us) x ks.length (li ks) (li ts) y = 0) (hx : x < ns.length) (hy : y < ks.length) :
    Calls Try.prog 33 #[.agg #[.int .i64 ns.length, .slice A0 ns.length c0, .slice A1 6 c1], .int .i64 x, .agg #[.int .i64 ks.length, .slice B0 ks.length d0, .slice B1 6 d1], .int .i64 y] w fun e w' => ∃ u, e = .returned (.tuple #[u, .int .i64 (tres ns us ks ts x y).2]) ∧ Ow cN 89 w.heap.size w' u (tres ns us ks ts x y).1 ∧ Below w.heap.size w w' := by
  have h8 := h1.r.1
  have hk8 := h2.r.1
  have hb0 := below_alloc' w (.cells #[.int .i64 ns.length, .slice A0 ns.length c0, .slice A1 6 c1] 62)
  have hk0 := Blk.new w 62 #[.int .i64 ns.length, .slice A0 ns.length c0, .slice A1 6 c1]
  have hb1 := below_alloc' (w.alloc (.cells #[.int .i64 ns.length, .slice A0 ns.length c0, .slice A1 6 c1] 62)) (.cells #[.int .i64 ks.length, .slice B0 ks.length d0, .slice B1 6 d1] 62)
  have hk1 : Blk _ (w.heap.size + 1) _ _ := Blk.new' (w.alloc (.cells #[.int .i64 ns.length, .slice A0 ns.length c0, .slice A1 6 c1] 62)) 62 #[.int .i64 ks.length, .slice B0 ks.length d0, .slice B1 6 d1] (by simp)
  have HB := Lib.hid (bthen hb0 hb1)
  have HK0 := Lib.hid (hk0.below hb1 hk0.lt)
  have HK1 := Lib.hid hk1
  have HC := Lib.hid (fun W (hW : Below w.heap.size w W) => hc ▸ spec_l07Places ns.length x ks.length y _ _ _ _ (li ns) (li us) (li ks) (li ts) W (hm.a.below hW) (hm.u.below hW) (hm2.a.below hW) (hm2.u.below hW) (by rw [li_length, li_length, h1.l]; omega) (by rw [li_length, li_length, h2.l]; omega))
  have HNew := Lib.hid (fun W (hW : Below w.heap.size w W) => spec_l07Bounded ns us ks ts A0 A1 B0 B1 c0 c1 d0 d1 W (hm.below hW) (hm2.below hW) h1 h2)
  have HRo := Lib.hid (fun v W hv => spec_l07Rounds ns us ks ts x y v W hv hx hy hk8)
  have HTo := Lib.hid (fun L lc W (hW : Below w.heap.size w W) hL => spec_l07Told ns us ks ts A0 A1 B0 B1 L c0 c1 d0 d1 lc W (hm.below hW) (hm2.below hW) h1 h2 (by omega) (by omega) hL)
  have HRes : Hid (tres ns us ks ts x y = match rd ns us ks ts x y with
    | none => ([], 4)
    | some k => match tab ns us ks ts k x y with
      | none => ([], 3)
      | some xs => (xs, 0)) := Lib.hid rfl
  have HRI : Hid (rdI ns us ks ts x y = oI (rd ns us ks ts x y)) := Lib.hid (by unfold rdI oI; rfl)
  have HLn : Hid ((bdL ns us ks ts 16).length = 17) := Lib.hid (by rw [bdL_length])
  clear hb0 hb1 hk0 hk1 hm hm2 h1 h2 hc
  generalize tres ns us ks ts x y = R at *
  obtain ⟨R1, R2⟩ := R
  dsimp only
  go_enter Try.func33, Try.ntmps33
  go_upto_region 1 with fail
  generalize World.alloc (w.alloc _) _ = W at *
  have k0 := HK0.out.cell
  have k1 := HK1.out.cell
  have l0 := HK0.out.lt
  have l1 := HK1.out.lt
  go_wp2_with fail
  refine (HC.out _ HB.out).mono ?_
  rintro e w1 ⟨rfl, hb⟩
  have HB1 := Lib.hid (bthen HB.out hb)
  have HK2 := Lib.hid (HK0.out.below hb HK0.out.lt)
  have HK3 := Lib.hid (HK1.out.below hb HK1.out.lt)
  clear hb k0 k1 l0 l1
  have k0 := HK2.out.cell
  have k1 := HK3.out.cell
  have l0 := HK2.out.lt
  have l1 := HK3.out.lt
  go_wp2_with fail
  refine (HNew.out _ HB1.out).mono ?_
  rintro e w2 ⟨vL, rfl, hL, hb⟩
  obtain ⟨L, lc, rfl⟩ := hL.opn
  rw [HLn.out] at hL ⊢
  have HB2 := Lib.hid (bthen HB1.out hb)
  have HK4 := Lib.hid (HK2.out.below hb HK2.out.lt)
  have HK5 := Lib.hid (HK3.out.below hb HK3.out.lt)
  have HL := Lib.hid hL
  clear hb k0 k1 l0 l1 hL
  have HRo2 := Lib.hid (HRo.out _ _ HL.out)
  rw [HRI.out] at HRo2
  go_wp2_with fail
  refine HRo2.out.mono ?_
  rintro e w3 ⟨rfl, rfl⟩
  cases hrd : rd ns us ks ts x y with
  | none =>
    have HE : Hid ((R1, R2) = (([] : List Nd), (4 : Int))) := Lib.hid (by rw [HRes.out, hrd])
    obtain ⟨rfl, rfl⟩ : R1 = [] ∧ R2 = 4 := by have := HE.out; injection this with a1 a2; exact ⟨a1, a2⟩
    rw [show oI none = -1 from rfl]
    clear hrd HRes HE
    go_wp2
    go_ret2
    exact ⟨_, rfl, Ow.nil _ _, HB2.out⟩
  | some k =>
    have HR2 : Hid ((R1, R2) = match tab ns us ks ts k x y with
      | none => (([] : List Nd), (3 : Int))
      | some xs => (xs, 0)) := Lib.hid (by rw [HRes.out, hrd])
    rw [show oI (some k) = (k : Int) from rfl]
    have hge : decide ((k : Int) < 0) = false := decide_eq_false (by omega)
    have HRd := Lib.hid hrd
    clear hrd HRes
    have HT2 := Lib.hid (HTo.out L lc _ HB2.out HL.out)
    have k0 := HK4.out.cell
    have k1 := HK5.out.cell
    have l0 := HK4.out.lt
    have l1 := HK5.out.lt
    go_wp2_with fail
    refine HT2.out.mono ?_
    rintro e w4 ⟨vt, T, rfl, hT, htt, hb⟩
    obtain ⟨At, ct, rfl⟩ := hT.opn
    have HB4 := Lib.hid (bthen HB2.out hb)
    have HTk := Lib.hid (htt x y k hx hy HRd.out)
    obtain ⟨b6, o6, b7, o7, cr, Ae, ce, e6, hb6, hc6, hb7, hc7, hse, hke⟩ := hT.at_ hx hy
    subst e6
    rw [HTk.out] at hc7 hse
    clear hb hT htt hke k0 k1 l0 l1
    cases htab : tab ns us ks ts k x y with
    | none =>
      obtain ⟨rfl, rfl⟩ : R1 = [] ∧ R2 = 3 := by have := HR2.out; rw [htab] at this; injection this with a1 a2; exact ⟨a1, a2⟩
      rw [htab] at hc7
      simp only [Option.getD_none, List.length_nil] at hc7
      clear HR2 htab hse HTk
      go_wp2
      go_ret2
      exact ⟨_, rfl, Ow.nil _ _, HB4.out⟩
    | some xs =>
      obtain ⟨rfl, rfl⟩ : R1 = xs ∧ R2 = 0 := by have := HR2.out; rw [htab] at this; injection this with a1 a2; exact ⟨a1, a2⟩
      have hl := tab_len k htab
      rw [htab] at hc7 hse
      simp only [Option.getD_some] at hc7 hse
      have HOwn := Lib.hid (spec_l02Own _ R1 w4 hse (by omega))
      have hne : (((R1.length : Nat) : Int) == 0) = false := beq_eq_false_iff_ne.2 (by omega)
      have HLl := Lib.hid hl
      clear HR2 htab hse HTk hl
      go_wp2_with fail
      refine HOwn.out.mono ?_
      rintro e w5 ⟨u, rfl, ho, hb⟩
      obtain ⟨A5, c5, rfl⟩ := ho.opn
      have HO5 := Lib.hid (ho.mono HB4.out.size)
      have HB5 := Lib.hid (bthen HB4.out hb)
      clear ho hb
      go_wp2
      go_ret2
      exact ⟨_, rfl, HO5.out, HB5.out⟩
end Go.Proofs.Ytgdmfihnbbgcoaa

/- TellingFormula of the program. -/
import Derived.Test.Ytgdmfihnbbgcoaa07C
namespace Go.Proofs.Ytgdmfihnbbgcoaa
open Go.RowKit
set_option linter.unusedVariables false
set_option linter.unusedSimpArgs false
theorem fm_all (p : Nat) (ns us ks ts : List Nat) (A0 A1 B0 B1 L : Option Addr) (c0 c1 d0 d1 lc : Nat) (h1 : MdN ns us) (h2 : MdN ks ts) : ∀ k, FmOK p ns us ks ts A0 A1 B0 B1 L c0 c1 d0 d1 lc k
  | 0 => fun x y k' w h hx hy hrd hk => by
    obtain rfl : k' = 0 := by omega
    exact impl_formula_zero p ns us ks ts A0 A1 B0 B1 L c0 c1 d0 d1 lc x y w h h1 h2 hx hy hrd
  | k + 1 => fun x y k' w h hx hy hrd hk => by
    cases k' with
    | zero => exact impl_formula_zero p ns us ks ts A0 A1 B0 B1 L c0 c1 d0 d1 lc x y w h h1 h2 hx hy hrd
    | succ κ => exact impl_formula_succ p ns us ks ts A0 A1 B0 B1 L c0 c1 d0 d1 lc κ x y ((fm_all p ns us ks ts A0 A1 B0 B1 L c0 c1 d0 d1 lc h1 h2 k).mono (by omega)) w h h1 h2 hx hy hrd
/-- the answer: a formula and a code -/
def tres (ns us ks ts : List Nat) (x y : Nat) : List Nd × Int := match rd ns us ks ts x y with
  | none => ([], 4)
  | some k => match tab ns us ks ts k x y with
    | none => ([], 3)
    | some xs => (xs, 0)
theorem tres_len (ns us ks ts : List Nat) (x y : Nat) : (tres ns us ks ts x y).1.length ≤ 40 := by
  unfold tres
  split
  · simp
  · split
    · simp
    · rename_i h; exact (tab_len _ h).2
set_option maxRecDepth 100000 in
theorem impl_TellingFormula_bad (n x k y : Int) (va vu vb vt : Value) (xs vs ys ts : List Int) (w : World) (ha : Sl cI w va xs) (hu : Sl cI w vu vs) (hb : Sl cI w vb ys) (ht : Sl cI w vt ts) (hl : xs.length + vs.length ≤ 1048576) (hl' : ys.length + ts.length ≤ 1048576) (hc : tcode n xs vs x k ys ts y ≠ 0) :
    Calls Try.prog 35 #[.agg #[.int .i64 n, va, vu], .int .i64 x, .agg #[.int .i64 k, vb, vt], .int .i64 y] w fun e w' => e = .returned (.tuple #[.slice none 0 0, .int .i64 (tcode n xs vs x k ys ts y)]) ∧ Below w.heap.size w w' := by
  obtain ⟨A0, c0, rfl⟩ := ha.opn
  obtain ⟨A1, c1, rfl⟩ := hu.opn
  obtain ⟨B0, d0, rfl⟩ := hb.opn
  obtain ⟨B1, d1, rfl⟩ := ht.opn
  have hb0 := below_alloc' w (.cells #[.int .i64 n, .slice A0 xs.length c0, .slice A1 vs.length c1] 62)
  have hk0 := Blk.new w 62 #[.int .i64 n, .slice A0 xs.length c0, .slice A1 vs.length c1]
  have hb1 := below_alloc' (w.alloc (.cells #[.int .i64 n, .slice A0 xs.length c0, .slice A1 vs.length c1] 62)) (.cells #[.int .i64 k, .slice B0 ys.length d0, .slice B1 ts.length d1] 62)
  have hk1 : Blk _ (w.heap.size + 1) _ _ := Blk.new' (w.alloc (.cells #[.int .i64 n, .slice A0 xs.length c0, .slice A1 vs.length c1] 62)) 62 #[.int .i64 k, .slice B0 ys.length d0, .slice B1 ts.length d1] (by simp)
  have hbb := bthen hb0 hb1
  have HB := Lib.hid hbb
  have HK0 := Lib.hid (hk0.below hb1 hk0.lt)
  have HK1 := Lib.hid hk1
  have HC := Lib.hid (fun W (hW : Below w.heap.size w W) => impl_tellingCode n x k y _ _ _ _ xs vs ys ts W (ha.below hW) (hu.below hW) (hb.below hW) (ht.below hW) hl hl')
  have hc' : (tcode n xs vs x k ys ts y != 0) = true := by simpa using hc
  generalize tcode n xs vs x k ys ts y = q at *
  clear hb0 hb1 hk0 hk1 hbb ha hu hb ht hc
  go_enter Try.func35, Try.ntmps35
  go_upto_region 1 with fail
  generalize World.alloc (w.alloc _) _ = W at *
  have k0 := HK0.out.cell
  have k1 := HK1.out.cell
  have l0 := HK0.out.lt
  have l1 := HK1.out.lt
  go_wp2_with fail
  refine (HC.out _ HB.out).mono ?_
  rintro e w1 ⟨rfl, hb⟩
  have HB1 := Lib.hid (bthen HB.out hb)
  clear hb k0 k1 l0 l1
  go_wp2
  go_ret2
  exact ⟨rfl, HB1.out⟩
set_option maxRecDepth 100000 in
theorem impl_TellingFormula_ok (ns us ks ts : List Nat) (x y : Nat) (A0 A1 B0 B1 : Option Addr) (c0 c1 d0 d1 : Nat) (w : World) (hm : Mdl w (.slice A0 ns.length c0) (.slice A1 6 c1) ns us) (hm2 : Mdl w (.slice B0 ks.length d0) (.slice B1 6 d1) ks ts) (h1 : MdN ns us) (h2 : MdN ks ts) (hc : tcode ns.length (li ns) (li us) x ks.length (li ks) (li ts) y = 0) (hx : x < ns.length) (hy : y < ks.length) :
    Calls Try.prog 35 #[.agg #[.int .i64 ns.length, .slice A0 ns.length c0, .slice A1 6 c1], .int .i64 x, .agg #[.int .i64 ks.length, .slice B0 ks.length d0, .slice B1 6 d1], .int .i64 y] w fun e w' => ∃ u, e = .returned (.tuple #[u, .int .i64 (tres ns us ks ts x y).2]) ∧ Ow cN 89 w.heap.size w' u (tres ns us ks ts x y).1 ∧ Below w.heap.size w w' := by
  have h8 := h1.r.1
  have hk8 := h2.r.1
  have hb0 := below_alloc' w (.cells #[.int .i64 ns.length, .slice A0 ns.length c0, .slice A1 6 c1] 62)
  have hk0 := Blk.new w 62 #[.int .i64 ns.length, .slice A0 ns.length c0, .slice A1 6 c1]
  have hb1 := below_alloc' (w.alloc (.cells #[.int .i64 ns.length, .slice A0 ns.length c0, .slice A1 6 c1] 62)) (.cells #[.int .i64 ks.length, .slice B0 ks.length d0, .slice B1 6 d1] 62)
  have hk1 : Blk _ (w.heap.size + 1) _ _ := Blk.new' (w.alloc (.cells #[.int .i64 ns.length, .slice A0 ns.length c0, .slice A1 6 c1] 62)) 62 #[.int .i64 ks.length, .slice B0 ks.length d0, .slice B1 6 d1] (by simp)
  have HB := Lib.hid (bthen hb0 hb1)
  have HK0 := Lib.hid (hk0.below hb1 hk0.lt)
  have HK1 := Lib.hid hk1
  have HC := Lib.hid (fun W (hW : Below w.heap.size w W) => hc ▸ impl_tellingCode ns.length x ks.length y _ _ _ _ (li ns) (li us) (li ks) (li ts) W (hm.a.below hW) (hm.u.below hW) (hm2.a.below hW) (hm2.u.below hW) (by rw [li_length, li_length, h1.l]; omega) (by rw [li_length, li_length, h2.l]; omega))
  have HNew := Lib.hid (fun W (hW : Below w.heap.size w W) => impl_newTeller ns us ks ts A0 A1 B0 B1 c0 c1 d0 d1 W (hm.below hW) (hm2.below hW) h1 h2)
  have HRo := Lib.hid (fun p L lc W hT => impl_rounds p ns us ks ts A0 A1 B0 B1 L c0 c1 d0 d1 lc x y W hT h1 h2 hx hy)
  have HFm := Lib.hid (fun p L lc k W hT hrd => fm_all p ns us ks ts A0 A1 B0 B1 L c0 c1 d0 d1 lc h1 h2 k x y k W hT hx hy hrd (Nat.le_refl _))
  have HRes : Hid (tres ns us ks ts x y = match rd ns us ks ts x y with
    | none => ([], 4)
    | some k => match tab ns us ks ts k x y with
      | none => ([], 3)
      | some xs => (xs, 0)) := Lib.hid rfl
  have HRI : Hid (rdI ns us ks ts x y = oI (rd ns us ks ts x y)) := Lib.hid (by unfold rdI oI; rfl)
  clear hb0 hb1 hk0 hk1 hm hm2 h1 h2 hc
  generalize tres ns us ks ts x y = R at *
  obtain ⟨R1, R2⟩ := R
  dsimp only
  go_enter Try.func35, Try.ntmps35
  go_upto_region 1 with fail
  generalize World.alloc (w.alloc _) _ = W at *
  have k0 := HK0.out.cell
  have k1 := HK1.out.cell
  have l0 := HK0.out.lt
  have l1 := HK1.out.lt
  go_wp2_with fail
  refine (HC.out _ HB.out).mono ?_
  rintro e w1 ⟨rfl, hb⟩
  have HB1 := Lib.hid (bthen HB.out hb)
  have HK2 := Lib.hid (HK0.out.below hb HK0.out.lt)
  have HK3 := Lib.hid (HK1.out.below hb HK1.out.lt)
  clear hb k0 k1 l0 l1
  have k0 := HK2.out.cell
  have k1 := HK3.out.cell
  have l0 := HK2.out.lt
  have l1 := HK3.out.lt
  go_wp2_with fail
  refine (HNew.out _ HB1.out).mono ?_
  rintro e w2 ⟨p, L, lc, rfl, hT, hb⟩
  have HB2 := Lib.hid (bthen HB1.out hb)
  have HT := Lib.hid hT
  clear hb k0 k1 l0 l1 hT
  go_wp2_with fail
  refine (HRo.out _ _ _ _ HT.out).mono ?_
  rintro e w3 ⟨rfl, hb⟩
  have HB3 := Lib.hid (bthen HB2.out hb)
  have HT3 := Lib.hid (HT.out.below hb)
  clear hb
  rw [HRI.out]
  cases hrd : rd ns us ks ts x y with
  | none =>
    have HE : Hid ((R1, R2) = (([] : List Nd), (4 : Int))) := Lib.hid (by rw [HRes.out, hrd])
    obtain ⟨rfl, rfl⟩ : R1 = [] ∧ R2 = 4 := by have := HE.out; injection this with a1 a2; exact ⟨a1, a2⟩
    rw [show oI none = -1 from rfl]
    clear hrd HRes HE
    go_wp2
    go_ret2
    exact ⟨_, rfl, Ow.nil _ _, HB3.out⟩
  | some k =>
    have HF := Lib.hid (HFm.out p L lc k _ HT3.out hrd)
    have HR2 : Hid ((R1, R2) = match tab ns us ks ts k x y with
      | none => (([] : List Nd), (3 : Int))
      | some xs => (xs, 0)) := Lib.hid (by rw [HRes.out, hrd])
    rw [show oI (some k) = (k : Int) from rfl]
    have hge : decide ((k : Int) < 0) = false := decide_eq_false (by omega)
    clear hrd HRes
    go_wp2_with fail
    refine HF.out.mono ?_
    rintro e w4 ⟨u, xs, b, rfl, ho, hl, htab, hb⟩
    obtain ⟨A4, c4, rfl⟩ := ho.opn
    have HB4 := Lib.hid (bthen HB3.out hb)
    have HO4 := Lib.hid (ho.mono HB3.out.size)
    have HT4 := Lib.hid htab
    clear ho hb htab hl
    cases b
    · obtain ⟨rfl, rfl⟩ : R1 = [] ∧ R2 = 3 := by have := HR2.out; rw [HT4.out] at this; injection this with a1 a2; exact ⟨a1, a2⟩
      clear HR2 HT4
      go_wp2
      go_ret2
      exact ⟨_, rfl, Ow.nil _ _, HB4.out⟩
    · obtain ⟨rfl, rfl⟩ : R1 = xs ∧ R2 = 0 := by have := HR2.out; rw [HT4.out] at this; injection this with a1 a2; exact ⟨a1, a2⟩
      clear HR2 HT4
      go_wp2
      go_ret2
      exact ⟨_, rfl, HO4.out, HB4.out⟩
end Go.Proofs.Ytgdmfihnbbgcoaa

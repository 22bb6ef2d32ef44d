/- Joined of several texts: 14V, 14W. -/
import Derived.Test.YtboldkahppdmbaaGreatDoor14u
import Derived.Test.YtboldkahppdmbaaGreatDoorED
import Derived.Test.YtboldkahppdmbaaGreatDoorDB
import Derived.Test.YtboldkahppdmbaaGreatDoorAT
namespace Go.Proofs.YtboldkahppdmbaaGreatDoor
open Go.RowKit
set_option linter.unusedVariables false
set_option linter.unusedSimpArgs false
/- The reference's l14Code once more, with what it makes as its own lists; the drawing of a model, a formula and a frame, by shape (the drawing written by gendr7.py). -/
/-- what l14Code gives where there is no error, all of it new -/
def SpOw (w w' : World) (ns us : List Nat) (f : Fm) (A0 A1 : Option Addr) (c0 c1 : Nat) (s : Value) : Prop :=
  ∃ (A2 : Option Addr) (c2 : Nat) (A3 : Option Addr) (c3 : Nat) (Ab : Option Addr) (nb cb : Nat) (Ai : Option Addr) (ni ci : Nat) (Ao : Option Addr) (no co : Nat),
    s = .agg #[.int .i64 ns.length, .slice A0 ns.length c0, .slice A1 6 c1, .slice A2 ns.length c2, .slice A3 (acn ns us f) c3, .slice Ab nb cb, .slice Ai ni ci, .slice Ao no co] ∧
    Ow cI 2 w.heap.size w' (.slice A2 ns.length c2) (li (acl ns us f)) ∧ Ow cI 2 w.heap.size w' (.slice A3 (acn ns us f) c3) (li (afw ns us f)) ∧
    Ow cB 4 w.heap.size w' (.slice Ab nb cb) (m1 (mds ns us f (enc f).length)) ∧ Ow cI 2 w.heap.size w' (.slice Ai ni ci) (li (m3 (mds ns us f (enc f).length))) ∧ Ow cI 2 w.heap.size w' (.slice Ao no co) (li (m2 (mds ns us f (enc f).length)))
theorem spec_l14Code_ow (ns us : List Nat) (f : Fm) (A0 A1 : Option Addr) (c0 c1 : Nat) (v : Value) (w : World) (hm : Mdl w (.slice A0 ns.length c0) (.slice A1 6 c1) ns us) (h1 : MdN ns us) (h : Sl cN w v (enc f)) (hok : f.ok = true) (hl : (enc f).length ≤ 40) (hmk : mdOk ns.length (li ns) (li us) = true) (hfk : isF (enc f) = true) :
    Calls Tryz.prog 28 #[.agg #[.int .i64 ns.length, .slice A0 ns.length c0, .slice A1 6 c1], v] w
      fun e w' => ∃ s, e = .returned (.tuple #[s, .int .i64 0]) ∧ SpOw w w' ns us f A0 A1 c0 c1 s ∧ Below w.heap.size w w' := by
  have hb0 := below_alloc' w (.cells #[.int .i64 ns.length, .slice A0 ns.length c0, .slice A1 6 c1] 28)
  have hk0 := Blk.new w 28 #[.int .i64 ns.length, .slice A0 ns.length c0, .slice A1 6 c1]
  have hb1 := below_alloc' (w.alloc (.cells #[.int .i64 ns.length, .slice A0 ns.length c0, .slice A1 6 c1] 28)) (.cells #[.int .i64 0, .slice none 0 0, .slice none 0 0, .slice none 0 0, .slice none 0 0, .slice none 0 0, .slice none 0 0, .slice none 0 0] 59)
  have hk1 : Blk _ (w.heap.size + 1) _ _ := Blk.new' (w.alloc (.cells #[.int .i64 ns.length, .slice A0 ns.length c0, .slice A1 6 c1] 28)) 59 #[.int .i64 0, .slice none 0 0, .slice none 0 0, .slice none 0 0, .slice none 0 0, .slice none 0 0, .slice none 0 0, .slice none 0 0] (by simp)
  have HB := Lib.hid (bthen hb0 hb1)
  have HK0 := Lib.hid (hk0.below hb1 hk0.lt)
  have HK1 := Lib.hid hk1
  have HM := Lib.hid hm
  have HF := Lib.hid h
  have E1 := Lib.hid (li_length ns)
  have E2 := Lib.hid (show (li us).length = 6 by rw [li_length, h1.l])
  have HI := Lib.hid (fun W (hW : Below w.heap.size w W) => hmk ▸ spec_l06Is ns.length _ _ (li ns) (li us) W (hm.a.below hW) (hm.u.below hW) (by rw [E1.out]; have := h1.r.1; omega) (by rw [E2.out]; omega))
  have HJ := Lib.hid (fun W (hW : Below w.heap.size w W) => hfk ▸ spec_l02Is v (enc f) W (h.below hW) (by omega))
  have HC := Lib.hid (fun W (hW : Below w.heap.size w W) => spec_l14Make ns us f A0 A1 c0 c1 v W (hm.below hW) h1 (h.below hW) hok hl)
  clear hb0 hb1 hk0 hk1 hm h hmk hfk h1
  go_enter Tryz.func28, Tryz.ntmps28
  go_upto_region 1 with fail
  generalize World.alloc (w.alloc _) _ = W at *
  have k0 := HK0.out.cell
  have l0 := HK0.out.lt
  go_wp2_with fail
  refine (HI.out _ HB.out).mono ?_
  rintro e w1 ⟨rfl, hb⟩
  have HB1 := Lib.hid (bthen HB.out hb)
  have HK2 := Lib.hid (HK0.out.below hb l0)
  have HK3 := Lib.hid (HK1.out.below hb HK1.out.lt)
  clear hb k0 l0
  have k0 := HK2.out.cell
  have l0 := HK2.out.lt
  go_wp2_with fail
  refine (HJ.out _ HB1.out).mono ?_
  rintro e w2 ⟨rfl, rfl⟩
  go_wp2_with fail
  refine (HC.out _ HB1.out).mono ?_
  rintro e w2 ⟨cls, fst, bo, inn, out, rfl, ho1, ho2, ho3, ho4, ho5, hb⟩
  obtain ⟨A2, c2, rfl⟩ := ho1.opn
  obtain ⟨A3, c3, rfl⟩ := ho2.opn
  obtain ⟨Ab, nb, cb, rfl⟩ : ∃ a n c, bo = .slice a n c := by obtain ⟨a, c, e⟩ := ho3.opn; exact ⟨a, _, c, e⟩
  obtain ⟨Ai, ni, ci, rfl⟩ : ∃ a n c, inn = .slice a n c := by obtain ⟨a, c, e⟩ := ho4.opn; exact ⟨a, _, c, e⟩
  obtain ⟨Ao, no, co, rfl⟩ : ∃ a n c, out = .slice a n c := by obtain ⟨a, c, e⟩ := ho5.opn; exact ⟨a, _, c, e⟩
  have e1 : (li (acl ns us f)).length = ns.length := by rw [li_length, acl_length]
  have e2 : (li (afw ns us f)).length = acn ns us f := by rw [li_length, afw_length]
  rw [e1] at ho1 ⊢
  rw [e2] at ho2 ⊢
  have hr := HK3.out.below hb HK3.out.lt
  have rc := hr.cell
  have rf := hr.frozen
  have rl := hr.lt
  have lt1 := HK3.out.lt
  have L1 := Lib.hid lt1
  have O1 := Lib.hid ho1
  have O2 := Lib.hid ho2
  have O3 := Lib.hid ho3
  have O4 := Lib.hid ho4
  have O5 := Lib.hid ho5
  have HB2 := Lib.hid (bthen HB1.out hb)
  clear ho1 ho2 ho3 ho4 ho5 hb hr e1 e2 k0 l0 lt1
  go_wp2
  have hz : ∀ {α : Type} {K : Cod α} {e : TypeId} {v : Value} {xs : List α} (W3 : World) (u0 u1 u2 u3 u4 u5 u6 u7 : Value), Ow K e w1.heap.size W3 v xs → Ow K e w1.heap.size ((((((((W3.setCell ⟨w.heap.size + 1, 0, none⟩ u0).setCell ⟨w.heap.size + 1, 1, none⟩ u1).setCell ⟨w.heap.size + 1, 2, none⟩ u2).setCell ⟨w.heap.size + 1, 3, none⟩ u3).setCell ⟨w.heap.size + 1, 4, none⟩ u4).setCell ⟨w.heap.size + 1, 5, none⟩ u5).setCell ⟨w.heap.size + 1, 6, none⟩ u6).setCell ⟨w.heap.size + 1, 7, none⟩ u7) v xs := fun W3 u0 u1 u2 u3 u4 u5 u6 u7 h => by
    iterate 8 refine Ow.setBelow ?_ (show w.heap.size + 1 < w1.heap.size from L1.out) _
    exact h
  have hbb : ∀ (u0 u1 u2 u3 u4 u5 u6 u7 : Value), Below w.heap.size w ((((((((w2.setCell ⟨w.heap.size + 1, 0, none⟩ u0).setCell ⟨w.heap.size + 1, 1, none⟩ u1).setCell ⟨w.heap.size + 1, 2, none⟩ u2).setCell ⟨w.heap.size + 1, 3, none⟩ u3).setCell ⟨w.heap.size + 1, 4, none⟩ u4).setCell ⟨w.heap.size + 1, 5, none⟩ u5).setCell ⟨w.heap.size + 1, 6, none⟩ u6).setCell ⟨w.heap.size + 1, 7, none⟩ u7) := fun u0 u1 u2 u3 u4 u5 u6 u7 => by
    iterate 8 refine Below.setCell ?_ (show w.heap.size ≤ w.heap.size + 1 from Nat.le_succ _) _
    exact HB2.out
  refine bodyPost_ret (v := .tuple #[.agg #[.int .i64 ns.length, .slice A0 ns.length c0, .slice A1 6 c1, .slice A2 ns.length c2, .slice A3 (acn ns us f) c3, .slice Ab nb cb, .slice Ai ni ci, .slice Ao no co], .int .i64 0]) (by simp [results, Tryz.results28, go_sem, rc, rf, rl]) rfl ⟨_, rfl, ⟨A2, c2, A3, c3, Ab, nb, cb, Ai, ni, ci, Ao, no, co, rfl, ?_, ?_, ?_, ?_, ?_⟩, ?_⟩
  · exact (hz w2 _ _ _ _ _ _ _ _ O1.out).mono HB1.out.size
  · exact (hz w2 _ _ _ _ _ _ _ _ O2.out).mono HB1.out.size
  · exact (hz w2 _ _ _ _ _ _ _ _ O3.out).mono HB1.out.size
  · exact (hz w2 _ _ _ _ _ _ _ _ O4.out).mono HB1.out.size
  · exact (hz w2 _ _ _ _ _ _ _ _ O5.out).mono HB1.out.size
  · exact hbb _ _ _ _ _ _ _ _
/- The reference's drawing for FiltrationModel, by shape (written by gendr7.py). -/
theorem neq_of {α β : Type} {u v : Value} (h : ∀ k, u.ownBlock = some k → ∀ q, v.ownBlock = some q → k < q) {g : Nat} (hv : v.ownBlock = some g) : u.ownBlock ≠ some g := fun e => Nat.lt_irrefl _ (h g e g hv)
theorem afw_le8W (ns us : List Nat) (f : Fm) (h : ns.length ≤ 8) (i : Nat) : (afw ns us f).getD i 0 ≤ 8 := by
  rcases Nat.lt_or_ge i (afw ns us f).length with h1 | h1
  · have h2 := fw_lt (ky ns us f (enc f).length) ns.length ((afw ns us f).getD i 0) (by
      rw [List.getD_eq_getElem?_getD, List.getElem?_eq_getElem h1]
      exact List.getElem_mem _)
    omega
  · rw [List.getD_eq_getElem?_getD, List.getElem?_eq_none h1]
    exact Nat.zero_le _
theorem spec_one8W (x : Int) (w : World) (h0 : 0 ≤ x) (h1 : x ≤ 8) :
    Calls Tryz.prog 33 #[.int .i64 x] w fun e w' => ∃ y : Nat, e = .returned (.int .i64 (y : Int)) ∧ 1 ≤ y ∧ y ≤ 256 ∧ w = w' := by
  refine (spec_l01One x w h0 (by omega)).mono ?_
  rintro e w1 ⟨rfl, rfl⟩
  exact ⟨2 ^ x.toNat, by rw [← cast_two_pow], Nat.pow_pos (by decide), two_pow_256 (by omega), rfl⟩
set_option maxRecDepth 100000 in
set_option maxHeartbeats 8000000 in
theorem spec_l14Framed (v : Value) (xs : List (Fin 256)) (w : World) (h : Sl cY w v xs) (hl : xs.length ≤ 4096) :
    Calls Tryz.prog 19 #[v] w fun e w' => ∃ (n k : Int) (u1 u2 u3 u4 : Value) (L1 L2 : List Int) (L3 : List Nd) (L4 : List Int), e = .returned (.tuple #[.agg #[.int .i64 n, u1, u2], u3, .agg #[.int .i64 k, u4]]) ∧ L1.length ≤ 9 ∧ L2.length ≤ 6 ∧ L3.length ≤ 1001 ∧ L4.length ≤ 9 ∧ Ro cI w.heap.size w' u1 L1 ∧ Ro cI w.heap.size w' u2 L2 ∧ Ro cN w.heap.size w' u3 L3 ∧ Ro cI w.heap.size w' u4 L4 ∧ Below w.heap.size w w' := by
  have R0 := Blk.new w 28 #[.int .i64 0, .slice none 0 0, .slice none 0 0]
  have P0 := Blk.new' (w.alloc (.cells #[.int .i64 0, .slice none 0 0, .slice none 0 0] 28)) 26 #[.int .i64 0, .slice none 0 0] (g := w.heap.size + 1) (by simp)
  have hb0 := below_alloc' w (.cells #[.int .i64 0, .slice none 0 0, .slice none 0 0] 28)
  have hb1 := below_alloc' (w.alloc (.cells #[.int .i64 0, .slice none 0 0, .slice none 0 0] 28)) (.cells #[.int .i64 0, .slice none 0 0] 26)
  have R := Lib.hid (R0.below hb1 R0.lt)
  have P := Lib.hid P0
  have HH := Lib.hid ((h.below hb0).below hb1)
  have HBW := Lib.hid (bthen hb0 hb1)
  clear hb0 hb1 R0 P0 h
  go_enter Tryz.func19, Tryz.ntmps19
  go_upto_region 1 with fail
  generalize World.alloc (World.alloc w _) _ = W at *
  go_wp2_with fail
  refine (spec_l01From v xs W HH.out hl).mono ?_
  rintro e w1 ⟨rfl, hS, hb⟩
  have NER : Hid (w.heap.size ≠ W.heap.size) := Lib.hid (fun e => by have := R.out.lt; omega)
  have NEP : Hid (w.heap.size + 1 ≠ W.heap.size) := Lib.hid (fun e => by have := P.out.lt; omega)
  have ZP : Hid (w.heap.size + 1 < w1.heap.size) := Lib.hid (by have := P.out.lt; have := hb.size; omega)
  have ZR : Hid (w.heap.size < w1.heap.size) := Lib.hid (by have := ZP.out; omega)
  replace R := Lib.hid (R.out.below hb R.out.lt)
  replace P := Lib.hid (P.out.below hb P.out.lt)
  have HB1 := Lib.hid (bthen HBW.out hb)
  have ZG : Hid (w.heap.size ≤ W.heap.size) := Lib.hid HBW.out.size
  have D := Lib.hid (Dg.start hS)
  clear hS hb HBW HH
  go_wp2_with fail
  refine (spec_l14Drawn _ _ _ _ _ D.out.S).mono ?_
  rintro e w2 ⟨n, u1, u2, u3, L1, L2, L3, rfl, hL1, hL2, hL3, P1, P2, P3, hS, hg⟩
  replace P1 := Lib.hid P1
  replace P2 := Lib.hid P2
  replace P3 := Lib.hid P3
  replace R := Lib.hid (R.out.grown hg (fun e => NER.out (Option.some.inj e)))
  replace P := Lib.hid (P.out.grown hg (fun e => NEP.out (Option.some.inj e)))
  replace D := Lib.hid (D.out.call hS hg)
  clear hS hg
  obtain ⟨A1, c1, rfl⟩ := P1.out.opn
  obtain ⟨A2, c2, rfl⟩ := P2.out.opn
  obtain ⟨A3, c3, rfl⟩ := P3.out.opn
  have B1 := Lib.hid P1.out.blt
  have B2 := Lib.hid P2.out.blt
  have B3 := Lib.hid P3.out.blt
  go_upto_region 3 with fail
  have hb := below_alloc' w2 (.cells #[.int .i64 n, .slice A1 L1.length c1, .slice A2 L2.length c2] 28)
  have M := Lib.hid (Blk.new w2 28 #[.int .i64 n, .slice A1 L1.length c1, .slice A2 L2.length c2])
  have HM : Hid (w1.heap.size ≤ w2.heap.size) := Lib.hid D.out.size
  replace P1 := Lib.hid (P1.out.below hb)
  replace P2 := Lib.hid (P2.out.below hb)
  replace P3 := Lib.hid (P3.out.below hb)
  replace R := Lib.hid (R.out.below hb R.out.lt)
  replace P := Lib.hid (P.out.below hb P.out.lt)
  replace D := Lib.hid (D.out.below hb)
  clear hb
  obtain ⟨mb, hmb⟩ : ∃ b, w2.heap.size = b := ⟨_, rfl⟩
  generalize World.alloc w2 _ = WM at *
  rw [hmb] at M HM B1 B2 B3 ⊢
  clear hmb
  by_cases hmd : mdOk n L1 L2 = true ∧ isF L3 = true
  · obtain ⟨hmk, hfk⟩ := hmd
    obtain ⟨ns, us, rfl, rfl, rfl, hr, hu6, hus⟩ := mdOk_iff hmk
    obtain ⟨f, hok, rfl, hlf⟩ := (isF_iff _).1 hfk
    have h1 : MdN ns us := ⟨hr, hu6, hus⟩
    have hn8 := hr.1
    have E1 := Lib.hid (li_length ns)
    have E2 := Lib.hid (show (li us).length = 6 by rw [li_length, hu6])
    rw [E1.out] at P1 M B1 ⊢
    rw [E2.out] at P2 M B2 ⊢
    have HC := Lib.hid (fun W a b => spec_l14Code_ow ns us f A1 A2 c1 c2 (.slice A3 (enc f).length c3) W a h1 b hok hlf hmk hfk)
    have H1 := Lib.hid h1
    have HLF := Lib.hid hlf
    have HN8 : Hid (acn ns us f ≤ 8) := Lib.hid (Nat.le_trans (acn_le ns us f) hn8)
    clear hmk hfk hok hr hus hu6
    have km := M.out.cell
    have lm := M.out.lt
    go_wp2_with fail
    clear km lm
    refine (HC.out _ ⟨P1.out.1, P2.out.1⟩ P3.out.1).mono ?_
    rintro e w3 ⟨s, rfl, ⟨A4, c4, A5, c5, Ab, nb, cb, Ai, ni, ci, Ao, no, co, rfl, S1, S2, S3, S4, S5⟩, hb⟩
    replace S1 := Lib.hid (D.out.made S1)
    replace S2 := Lib.hid (D.out.made S2)
    replace S3 := Lib.hid (D.out.made S3)
    replace S4 := Lib.hid (D.out.made S4)
    replace S5 := Lib.hid (D.out.made S5)
    replace P1 := Lib.hid (P1.out.below hb)
    replace P2 := Lib.hid (P2.out.below hb)
    replace P3 := Lib.hid (P3.out.below hb)
    replace R := Lib.hid (R.out.below hb R.out.lt)
    replace P := Lib.hid (P.out.below hb P.out.lt)
    replace M := Lib.hid (M.out.below hb M.out.lt)
    replace D := Lib.hid (D.out.below hb)
    clear hb HC
    go_upto_region 4 with fail
    have hb := below_alloc' w3 (.cells #[.int .i64 (ns.length : Int), .slice A1 ns.length c1, .slice A2 6 c2, .slice A4 ns.length c4, .slice A5 (acn ns us f) c5, .slice Ab nb cb, .slice Ai ni ci, .slice Ao no co] 59)
    have S := Lib.hid (Blk.new w3 59 #[.int .i64 (ns.length : Int), .slice A1 ns.length c1, .slice A2 6 c2, .slice A4 ns.length c4, .slice A5 (acn ns us f) c5, .slice Ab nb cb, .slice Ai ni ci, .slice Ao no co])
    have HS : Hid (w1.heap.size ≤ w3.heap.size) := Lib.hid D.out.size
    replace P1 := Lib.hid (P1.out.below hb)
    replace P2 := Lib.hid (P2.out.below hb)
    replace P3 := Lib.hid (P3.out.below hb)
    replace S1 := Lib.hid (S1.out.below hb)
    replace S2 := Lib.hid (S2.out.below hb)
    replace S3 := Lib.hid (S3.out.below hb)
    replace S4 := Lib.hid (S4.out.below hb)
    replace S5 := Lib.hid (S5.out.below hb)
    replace R := Lib.hid (R.out.below hb R.out.lt)
    replace P := Lib.hid (P.out.below hb P.out.lt)
    replace M := Lib.hid (M.out.below hb M.out.lt)
    replace D := Lib.hid (D.out.below hb)
    clear hb
    obtain ⟨sb, hsb⟩ : ∃ b, w3.heap.size = b := ⟨_, rfl⟩
    generalize World.alloc w3 _ = WS at *
    rw [hsb] at S HS ⊢
    clear hsb
    go_wp2_with fail
    refine (spec_l01Next _ _ _ _ _ 8 D.out.S (by decide) (by decide)).mono ?_
    rintro e w4 ⟨k8, rfl, hk8, hS, hg, -⟩
    replace P1 := Lib.hid (D.out.passR P1.out (Nat.le_refl _) hg)
    replace P2 := Lib.hid (D.out.passR P2.out (Nat.le_refl _) hg)
    replace P3 := Lib.hid (D.out.passR P3.out (Nat.le_refl _) hg)
    replace S1 := Lib.hid (D.out.pass S1.out hg)
    replace S2 := Lib.hid (D.out.pass S2.out hg)
    replace S3 := Lib.hid (D.out.pass S3.out hg)
    replace S4 := Lib.hid (D.out.pass S4.out hg)
    replace S5 := Lib.hid (D.out.pass S5.out hg)
    replace R := Lib.hid (R.out.grown hg (fun e => NER.out (Option.some.inj e)))
    replace P := Lib.hid (P.out.grown hg (fun e => NEP.out (Option.some.inj e)))
    replace M := Lib.hid (D.out.blk M.out HM.out hg)
    replace S := Lib.hid (D.out.blk S.out HS.out hg)
    replace D := Lib.hid (D.out.call hS hg)
    clear hS hg
    cases t8 : ((k8 : Int) == 0)
    · clear hk8
      have HLo := Lib.hid (fun W a b => spec_l14Least ns us (acl ns us f) [] (acn ns us f) A1 A2 A4 A5 c1 c2 c4 c5 Ab Ai Ao nb cb ni ci no co W a H1.out b (acl_length ns us f) (acl_lt ns us f) HN8.out)
      have HHi := Lib.hid (fun W a => spec_l14Greatest ns us (afw ns us f) f (acn ns us f) ns.length A1 A2 A4 A5 c1 c2 c4 c5 Ab Ai Ao nb cb ni ci no co false false W a H1.out (by have := HLF.out; omega) rfl (afw_length ns us f) HN8.out (fun i => afw_le8W ns us f H1.out.r.1 i))
      go_upto_region 6 with fail
      have hb := (Below.refl w4.heap.size w4).drew
      replace P1 := Lib.hid (P1.out.below hb)
      replace P2 := Lib.hid (P2.out.below hb)
      replace P3 := Lib.hid (P3.out.below hb)
      replace S1 := Lib.hid (S1.out.below hb)
      replace S2 := Lib.hid (S2.out.below hb)
      replace S3 := Lib.hid (S3.out.below hb)
      replace S4 := Lib.hid (S4.out.below hb)
      replace S5 := Lib.hid (S5.out.below hb)
      replace R := Lib.hid (R.out.below hb R.out.lt)
      replace P := Lib.hid (P.out.below hb P.out.lt)
      replace M := Lib.hid (M.out.below hb M.out.lt)
      replace S := Lib.hid (S.out.below hb S.out.lt)
      replace D := Lib.hid (D.out.below hb)
      clear hb
      have hI : (fun X : World => X.cell? ⟨sb, 0, none⟩ = some (.int .i64 (ns.length : Int)) ∧ X.cell? ⟨sb, 1, none⟩ = some (.slice A1 ns.length c1) ∧ X.cell? ⟨sb, 2, none⟩ = some (.slice A2 6 c2) ∧ X.cell? ⟨sb, 3, none⟩ = some (.slice A4 ns.length c4) ∧ X.cell? ⟨sb, 4, none⟩ = some (.slice A5 (acn ns us f) c5) ∧ X.cell? ⟨sb, 5, none⟩ = some (.slice Ab nb cb) ∧ X.cell? ⟨sb, 6, none⟩ = some (.slice Ai ni ci) ∧ X.cell? ⟨sb, 7, none⟩ = some (.slice Ao no co)) (World.drew w4) := ⟨S.out.cell 0, S.out.cell 1, S.out.cell 2, S.out.cell 3, S.out.cell 4, S.out.cell 5, S.out.cell 6, S.out.cell 7⟩
      refine wp_region_sched (fun X => X.cell? ⟨sb, 0, none⟩ = some (.int .i64 (ns.length : Int)) ∧ X.cell? ⟨sb, 1, none⟩ = some (.slice A1 ns.length c1) ∧ X.cell? ⟨sb, 2, none⟩ = some (.slice A2 6 c2) ∧ X.cell? ⟨sb, 3, none⟩ = some (.slice A4 ns.length c4) ∧ X.cell? ⟨sb, 4, none⟩ = some (.slice A5 (acn ns us f) c5) ∧ X.cell? ⟨sb, 5, none⟩ = some (.slice Ab nb cb) ∧ X.cell? ⟨sb, 6, none⟩ = some (.slice Ai ni ci) ∧ X.cell? ⟨sb, 7, none⟩ = some (.slice Ao no co)) 4 [0, 2] [0, 2, 1, 3] (by kernel_rfl) (by kernel_rfl) hI ?_
      generalize World.drew w4 = w4d at *
      repeat
        apply wpSched_q rfl rfl
        case h =>
          intro w' hI K hK
          have cc0 : w'.cell? ⟨sb, 0, none⟩ = some (.int .i64 (ns.length : Int)) := hI.1
          have cc1 : w'.cell? ⟨sb, 1, none⟩ = some (.slice A1 ns.length c1) := hI.2.1
          have cc2 : w'.cell? ⟨sb, 2, none⟩ = some (.slice A2 6 c2) := hI.2.2.1
          have cc3 : w'.cell? ⟨sb, 3, none⟩ = some (.slice A4 ns.length c4) := hI.2.2.2.1
          have cc4 : w'.cell? ⟨sb, 4, none⟩ = some (.slice A5 (acn ns us f) c5) := hI.2.2.2.2.1
          have cc5 : w'.cell? ⟨sb, 5, none⟩ = some (.slice Ab nb cb) := hI.2.2.2.2.2.1
          have cc6 : w'.cell? ⟨sb, 6, none⟩ = some (.slice Ai ni ci) := hI.2.2.2.2.2.2.1
          have cc7 : w'.cell? ⟨sb, 7, none⟩ = some (.slice Ao no co) := hI.2.2.2.2.2.2.2
          simp only [quietV, stillV]
          go_simp
          exact hK
        go_simp
      refine wpSched_r rfl rfl ?_ hI
      intro K hK _
      go_simp
      refine (HLo.out _ ⟨P1.out.1, P2.out.1⟩ S1.out.sl).mono ?_
      rintro e w5 ⟨ul, rfl, LO, hb⟩
      have NLM : Hid (∀ k, ul.ownBlock = some k → mb < k) := Lib.hid (fun k hk => by have := (LO.block k hk).1; have := M.out.lt; omega)
      replace LO := Lib.hid (D.out.made LO)
      replace P1 := Lib.hid (P1.out.below hb)
      replace P2 := Lib.hid (P2.out.below hb)
      replace P3 := Lib.hid (P3.out.below hb)
      replace S1 := Lib.hid (S1.out.below hb)
      replace S2 := Lib.hid (S2.out.below hb)
      replace S3 := Lib.hid (S3.out.below hb)
      replace S4 := Lib.hid (S4.out.below hb)
      replace S5 := Lib.hid (S5.out.below hb)
      replace R := Lib.hid (R.out.below hb R.out.lt)
      replace P := Lib.hid (P.out.below hb P.out.lt)
      replace M := Lib.hid (M.out.below hb M.out.lt)
      replace S := Lib.hid (S.out.below hb S.out.lt)
      replace D := Lib.hid (D.out.below hb)
      clear hb
      clear hI
      have hI : (fun X : World => X.cell? ⟨sb, 0, none⟩ = some (.int .i64 (ns.length : Int)) ∧ X.cell? ⟨sb, 1, none⟩ = some (.slice A1 ns.length c1) ∧ X.cell? ⟨sb, 2, none⟩ = some (.slice A2 6 c2) ∧ X.cell? ⟨sb, 3, none⟩ = some (.slice A4 ns.length c4) ∧ X.cell? ⟨sb, 4, none⟩ = some (.slice A5 (acn ns us f) c5) ∧ X.cell? ⟨sb, 5, none⟩ = some (.slice Ab nb cb) ∧ X.cell? ⟨sb, 6, none⟩ = some (.slice Ai ni ci) ∧ X.cell? ⟨sb, 7, none⟩ = some (.slice Ao no co)) w5 := ⟨S.out.cell 0, S.out.cell 1, S.out.cell 2, S.out.cell 3, S.out.cell 4, S.out.cell 5, S.out.cell 6, S.out.cell 7⟩
      refine hK _ _ hI ?_
      clear hK K
      repeat
        apply wpSched_q rfl rfl
        case h =>
          intro w' hI K hK
          have cc0 : w'.cell? ⟨sb, 0, none⟩ = some (.int .i64 (ns.length : Int)) := hI.1
          have cc1 : w'.cell? ⟨sb, 1, none⟩ = some (.slice A1 ns.length c1) := hI.2.1
          have cc2 : w'.cell? ⟨sb, 2, none⟩ = some (.slice A2 6 c2) := hI.2.2.1
          have cc3 : w'.cell? ⟨sb, 3, none⟩ = some (.slice A4 ns.length c4) := hI.2.2.2.1
          have cc4 : w'.cell? ⟨sb, 4, none⟩ = some (.slice A5 (acn ns us f) c5) := hI.2.2.2.2.1
          have cc5 : w'.cell? ⟨sb, 5, none⟩ = some (.slice Ab nb cb) := hI.2.2.2.2.2.1
          have cc6 : w'.cell? ⟨sb, 6, none⟩ = some (.slice Ai ni ci) := hI.2.2.2.2.2.2.1
          have cc7 : w'.cell? ⟨sb, 7, none⟩ = some (.slice Ao no co) := hI.2.2.2.2.2.2.2
          simp only [quietV, stillV]
          go_simp
          exact hK
        go_simp
      refine wpSched_r rfl rfl ?_ hI
      intro K hK _
      go_simp
      refine (HHi.out _ ⟨⟨P1.out.1, P2.out.1⟩, S1.out.sl, S2.out.sl, S3.out.sl, S4.out.sl, S5.out.sl⟩).mono ?_
      rintro e w6 ⟨uh, rfl, HO, hb⟩
      have NLH : Hid (∀ k, ul.ownBlock = some k → ∀ q, uh.ownBlock = some q → k < q) := Lib.hid (fun k hk q hq => by have := (LO.out.block k hk).2; have := (HO.block q hq).1; omega)
      replace HO := Lib.hid (D.out.made HO)
      replace P1 := Lib.hid (P1.out.below hb)
      replace P2 := Lib.hid (P2.out.below hb)
      replace P3 := Lib.hid (P3.out.below hb)
      replace S1 := Lib.hid (S1.out.below hb)
      replace S2 := Lib.hid (S2.out.below hb)
      replace S3 := Lib.hid (S3.out.below hb)
      replace S4 := Lib.hid (S4.out.below hb)
      replace S5 := Lib.hid (S5.out.below hb)
      replace LO := Lib.hid (LO.out.below hb)
      replace R := Lib.hid (R.out.below hb R.out.lt)
      replace P := Lib.hid (P.out.below hb P.out.lt)
      replace M := Lib.hid (M.out.below hb M.out.lt)
      replace S := Lib.hid (S.out.below hb S.out.lt)
      replace D := Lib.hid (D.out.below hb)
      clear hb
      clear hI
      have hI : (fun X : World => X.cell? ⟨sb, 0, none⟩ = some (.int .i64 (ns.length : Int)) ∧ X.cell? ⟨sb, 1, none⟩ = some (.slice A1 ns.length c1) ∧ X.cell? ⟨sb, 2, none⟩ = some (.slice A2 6 c2) ∧ X.cell? ⟨sb, 3, none⟩ = some (.slice A4 ns.length c4) ∧ X.cell? ⟨sb, 4, none⟩ = some (.slice A5 (acn ns us f) c5) ∧ X.cell? ⟨sb, 5, none⟩ = some (.slice Ab nb cb) ∧ X.cell? ⟨sb, 6, none⟩ = some (.slice Ai ni ci) ∧ X.cell? ⟨sb, 7, none⟩ = some (.slice Ao no co)) w6 := ⟨S.out.cell 0, S.out.cell 1, S.out.cell 2, S.out.cell 3, S.out.cell 4, S.out.cell 5, S.out.cell 6, S.out.cell 7⟩
      refine hK _ _ hI ?_
      clear hK K
      repeat
        apply wpSched_q rfl rfl
        case h =>
          intro w' hI K hK
          simp only [quietV, stillV]
          go_simp
          exact hK
        go_simp
      refine wpSched_nil ?_
      try simp only [List.drop_succ_cons, List.drop_zero, List.drop_nil]
      clear hI HLo HHi S S1 S2 S3 S4 S5 HS
      have eLo : (li (qrl (acl ns us f) ns (acn ns us f) ns.length)).length = acn ns us f := by rw [li_length]; exact lst_length ns us f
      have eHi : (li (lnk (acn ns us f) (acn ns us f) (gp (may (mds ns us f (enc f).length) false) false (afw ns us f)))).length = acn ns us f := by rw [li_length, lnk_length]
      obtain ⟨AL, cL, rfl⟩ := LO.out.opn
      obtain ⟨AH, cH, rfl⟩ := HO.out.opn
      generalize li (qrl (acl ns us f) ns (acn ns us f) ns.length) = lo at *
      generalize li (lnk (acn ns us f) (acn ns us f) (gp (may (mds ns us f (enc f).length) false) false (afw ns us f))) = hi at *
      rw [eLo] at LO NLM NLH ⊢
      rw [eHi] at HO NLH ⊢
      have hN8 := HN8.out
      clear HN8 H1 HLF
      generalize acn ns us f = N at *
      go_wp2
      go_loopw [12] (fun i wr => ∃ (j : Nat) (lo : List Int), i = .int .i64 (j : Int) ∧ j ≤ N ∧ lo.length = N ∧ Ow cI 2 w1.heap.size wr (.slice AL N cL) lo ∧ Ow cI 2 w1.heap.size wr (.slice AH N cH) hi ∧ Ro cI w1.heap.size wr (.slice A1 ns.length c1) (li ns) ∧ Ro cI w1.heap.size wr (.slice A2 6 c2) (li us) ∧ Ro cN w1.heap.size wr (.slice A3 (enc f).length c3) (enc f) ∧ Dg W v xs W.heap.size w1 wr ∧ Blk wr w.heap.size 28 #[.int .i64 0, .slice none 0 0, .slice none 0 0] ∧ Blk wr (w.heap.size + 1) 26 #[.int .i64 0, .slice none 0 0] ∧ Blk wr mb 28 #[.int .i64 (ns.length : Int), .slice A1 ns.length c1, .slice A2 6 c2]) (fun i _ => N - (intOf i).toNat)
      case atStart => exact ⟨0, lo, rfl, Nat.zero_le _, eLo, LO.out, HO.out, P1.out, P2.out, P3.out, D.out, R.out, P.out, M.out⟩
      case round =>
        clear LO HO P1 P2 P3 D R P M eLo lo
        obtain ⟨j, lo, rfl, hj, eLo, LO, HO, P1, P2, P3, D, R, P, M⟩ := hrel
        replace LO := Lib.hid LO
        replace HO := Lib.hid HO
        replace P1 := Lib.hid P1
        replace P2 := Lib.hid P2
        replace P3 := Lib.hid P3
        replace D := Lib.hid D
        replace R := Lib.hid R
        replace P := Lib.hid P
        replace M := Lib.hid M
        replace eLo := Lib.hid eLo
        by_cases hlt : j < N
        · skip
          obtain ⟨gl, cc, hv, gB, gl2, -⟩ := LO.out.form (by rw [eLo.out]; omega)
          injection hv with hA hN hC
          subst hA
          subst hC
          clear hN
          obtain ⟨b, o, rfl, hbl, hc0⟩ := HO.out.sl.atI (k := j) (by rw [eHi]; exact hlt)
          have hmt : j < lo.length := by rw [eLo.out]; exact hlt
          have HMT := Lib.hid hmt
          have GB := Lib.hid gB
          obtain ⟨y, hy⟩ : ∃ y, hi[j]'(by rw [eHi]; exact hlt) = y := ⟨_, rfl⟩
          rw [hy] at hc0
          have HY := Lib.hid hy
          clear hy hc0 hbl gl2 gB
          obtain ⟨x, hx⟩ : ∃ x, lo[j] = x := ⟨_, rfl⟩
          have HX := Lib.hid hx
          clear hx hmt
          go_upto_region 10 with fail
          have hb := (Below.refl wr.heap.size wr).drew
          replace P1 := Lib.hid (P1.out.below hb)
          replace P2 := Lib.hid (P2.out.below hb)
          replace P3 := Lib.hid (P3.out.below hb)
          replace LO := Lib.hid (LO.out.below hb)
          replace HO := Lib.hid (HO.out.below hb)
          replace R := Lib.hid (R.out.below hb R.out.lt)
          replace P := Lib.hid (P.out.below hb P.out.lt)
          replace M := Lib.hid (M.out.below hb M.out.lt)
          replace D := Lib.hid (D.out.below hb)
          clear hb
          have hI : (fun X : World => X.cell? ⟨gl, j, none⟩ = some (.int .i64 x) ∧ X.cell? ⟨b, o + j, none⟩ = some (.int .i64 y)) (World.drew wr) := ⟨by rw [← HX.out]; exact (LO.out.at1 rfl HMT.out rfl).1, by obtain ⟨b1, o1, e1, -, h9⟩ := HO.out.sl.atI (k := j) (by rw [eHi]; exact hlt); injection e1 with e1; injection e1 with e1 e2; subst e1; subst e2; rw [← HY.out]; exact h9⟩
          refine wp_region_sched (fun X => X.cell? ⟨gl, j, none⟩ = some (.int .i64 x) ∧ X.cell? ⟨b, o + j, none⟩ = some (.int .i64 y)) 15 [0, 1, 2, 3, 4, 5, 6, 7, 8, 9, 10, 12, 13, 14] [0, 1, 2, 3, 4, 5, 6, 7, 8, 9, 10, 11, 12, 13, 14] (by kernel_rfl) (by kernel_rfl) hI ?_
          generalize World.drew wr = wd at *
          repeat
            apply wpSched_q rfl rfl
            case h =>
              intro w' hI K hK
              have cc0 : w'.cell? ⟨gl, j, none⟩ = some (.int .i64 x) := hI.1
              have cc1 : w'.cell? ⟨b, o + j, none⟩ = some (.int .i64 y) := hI.2
              simp only [quietV, stillV]
              go_simp
              exact hK
            go_simp
          refine wpSched_r rfl rfl ?_ hI
          intro K hK _
          go_simp
          refine (spec_l01Next _ _ _ _ _ 256 D.out.S (by decide) (by decide)).mono ?_
          rintro e w7 ⟨r, rfl, hr, hS, hg, -⟩
          replace P1 := Lib.hid (D.out.passR P1.out (Nat.le_refl _) hg)
          replace P2 := Lib.hid (D.out.passR P2.out (Nat.le_refl _) hg)
          replace P3 := Lib.hid (D.out.passR P3.out (Nat.le_refl _) hg)
          replace LO := Lib.hid (D.out.pass LO.out hg)
          replace HO := Lib.hid (D.out.pass HO.out hg)
          replace R := Lib.hid (R.out.grown hg (fun e => NER.out (Option.some.inj e)))
          replace P := Lib.hid (P.out.grown hg (fun e => NEP.out (Option.some.inj e)))
          replace M := Lib.hid (D.out.blk M.out HM.out hg)
          replace D := Lib.hid (D.out.call hS hg)
          clear hS hg
          clear hr
          clear hI
          have hI : (fun X : World => X.cell? ⟨gl, j, none⟩ = some (.int .i64 x) ∧ X.cell? ⟨b, o + j, none⟩ = some (.int .i64 y)) w7 := ⟨by rw [← HX.out]; exact (LO.out.at1 rfl HMT.out rfl).1, by obtain ⟨b1, o1, e1, -, h9⟩ := HO.out.sl.atI (k := j) (by rw [eHi]; exact hlt); injection e1 with e1; injection e1 with e1 e2; subst e1; subst e2; rw [← HY.out]; exact h9⟩
          refine hK _ _ hI ?_
          clear hK K
          repeat
            apply wpSched_q rfl rfl
            case h =>
              intro w' hI K hK
              have cc0 : w'.cell? ⟨gl, j, none⟩ = some (.int .i64 x) := hI.1
              have cc1 : w'.cell? ⟨b, o + j, none⟩ = some (.int .i64 y) := hI.2
              simp only [quietV, stillV]
              go_simp
              exact hK
            go_simp
          refine wpSched_nil ?_
          try simp only [List.drop_succ_cons, List.drop_zero, List.drop_nil]
          clear hI
          obtain ⟨c2v, f2v, -, -⟩ := LO.out.at1 rfl HMT.out rfl
          have QLO := Lib.hid (fun y => LO.out.set1 (j := j) (x := y) (u := .int .i64 y) rfl rfl HMT.out)
          have QHO := Lib.hid (fun y => HO.out.far (p := ⟨gl, j, none⟩) (fun e => Nat.lt_irrefl _ (NLH.out gl rfl gl e)) (.int .i64 y))
          have QP1 := Lib.hid (fun y => P1.out.far (p := ⟨gl, j, none⟩) (fun e => by have := B1.out gl e; have := NLM.out gl rfl; omega) (.int .i64 y))
          have QP2 := Lib.hid (fun y => P2.out.far (p := ⟨gl, j, none⟩) (fun e => by have := B2.out gl e; have := NLM.out gl rfl; omega) (.int .i64 y))
          have QP3 := Lib.hid (fun y => P3.out.far (p := ⟨gl, j, none⟩) (fun e => by have := B3.out gl e; have := NLM.out gl rfl; omega) (.int .i64 y))
          have QR := Lib.hid (fun y => R.out.far (p := ⟨gl, j, none⟩) (fun e => by have e1 : w.heap.size = gl := e; have := GB.out; have := ZR.out; omega) (.int .i64 y))
          have QP := Lib.hid (fun y => P.out.far (p := ⟨gl, j, none⟩) (fun e => by have e1 : w.heap.size + 1 = gl := e; have := GB.out; have := ZP.out; omega) (.int .i64 y))
          have QM := Lib.hid (fun y => M.out.far (p := ⟨gl, j, none⟩) (fun e => by have e1 : mb = gl := e; have := NLM.out gl rfl; omega) (.int .i64 y))
          have QD := Lib.hid (fun y => D.out.set (p := ⟨gl, j, none⟩) GB.out (.int .i64 y))
          have QE : Hid (∀ y : Int, (lo.set j y).length = N) := Lib.hid (fun y => by rw [List.length_set]; exact eLo.out)
          go_wp2
          exact ⟨⟨j + 1, lo.set j _, by go_num, by omega, QE.out _, QLO.out _, QHO.out _, QP1.out _, QP2.out _, QP3.out _, QD.out _, QR.out _, QP.out _, QM.out _⟩, by simp [intOf]; omega⟩
        · obtain rfl : j = N := by omega
          clear hlt hj
          have hlo := eLo.out
          by_cases hN0 : 0 < j
          · skip
            go_wp2_with fail
            refine (spec_l01Next _ _ _ _ _ 4 D.out.S (by decide) (by decide)).mono ?_
            rintro e w18 ⟨k4, rfl, hk4, hS, hg, -⟩
            replace P1 := Lib.hid (D.out.passR P1.out (Nat.le_refl _) hg)
            replace P2 := Lib.hid (D.out.passR P2.out (Nat.le_refl _) hg)
            replace P3 := Lib.hid (D.out.passR P3.out (Nat.le_refl _) hg)
            replace LO := Lib.hid (D.out.pass LO.out hg)
            replace HO := Lib.hid (D.out.pass HO.out hg)
            replace R := Lib.hid (R.out.grown hg (fun e => NER.out (Option.some.inj e)))
            replace P := Lib.hid (P.out.grown hg (fun e => NEP.out (Option.some.inj e)))
            replace M := Lib.hid (D.out.blk M.out HM.out hg)
            replace D := Lib.hid (D.out.call hS hg)
            clear hS hg
            cases t4 : ((k4 : Int) == 0)
            · clear hk4
              have HLL : Hid (lo.length ≤ 9) := Lib.hid (by have := hlo; omega)
              go_upto_region 13 with fail
              have hb := (Below.refl w18.heap.size w18).drew
              replace P1 := Lib.hid (P1.out.below hb)
              replace P2 := Lib.hid (P2.out.below hb)
              replace P3 := Lib.hid (P3.out.below hb)
              replace LO := Lib.hid (LO.out.below hb)
              replace HO := Lib.hid (HO.out.below hb)
              replace R := Lib.hid (R.out.below hb R.out.lt)
              replace P := Lib.hid (P.out.below hb P.out.lt)
              replace M := Lib.hid (M.out.below hb M.out.lt)
              replace D := Lib.hid (D.out.below hb)
              clear hb
              have hI : (fun X : World => X.cell? ⟨mb, 0, none⟩ = some (.int .i64 (ns.length : Int)) ∧ X.cell? ⟨mb, 1, none⟩ = some (.slice A1 ns.length c1) ∧ X.cell? ⟨mb, 2, none⟩ = some (.slice A2 6 c2)) (World.drew w18) := ⟨M.out.cell 0, M.out.cell 1, M.out.cell 2⟩
              refine wp_region_sched (fun X => X.cell? ⟨mb, 0, none⟩ = some (.int .i64 (ns.length : Int)) ∧ X.cell? ⟨mb, 1, none⟩ = some (.slice A1 ns.length c1) ∧ X.cell? ⟨mb, 2, none⟩ = some (.slice A2 6 c2)) 6 [0, 1, 2, 5] [0, 1, 2, 3, 4, 5] (by kernel_rfl) (by kernel_rfl) hI ?_
              generalize World.drew w18 = w18d at *
              repeat
                apply wpSched_q rfl rfl
                case h =>
                  intro w' hI K hK
                  have cc0 : w'.cell? ⟨mb, 0, none⟩ = some (.int .i64 (ns.length : Int)) := hI.1
                  have cc1 : w'.cell? ⟨mb, 1, none⟩ = some (.slice A1 ns.length c1) := hI.2.1
                  have cc2 : w'.cell? ⟨mb, 2, none⟩ = some (.slice A2 6 c2) := hI.2.2
                  simp only [quietV, stillV]
                  go_simp
                  exact hK
                go_simp
              refine wpSched_r rfl rfl ?_ hI
              intro K hK _
              go_simp
              refine (spec_l05Make _ lo _ LO.out.sl (by have := HLL.out; omega)).mono ?_
              rintro e w19 ⟨u4, rfl, O4, hb⟩
              replace O4 := Lib.hid (D.out.made O4)
              replace P1 := Lib.hid (P1.out.below hb)
              replace P2 := Lib.hid (P2.out.below hb)
              replace P3 := Lib.hid (P3.out.below hb)
              replace LO := Lib.hid (LO.out.below hb)
              replace HO := Lib.hid (HO.out.below hb)
              replace R := Lib.hid (R.out.below hb R.out.lt)
              replace P := Lib.hid (P.out.below hb P.out.lt)
              replace M := Lib.hid (M.out.below hb M.out.lt)
              replace D := Lib.hid (D.out.below hb)
              clear hb
              obtain ⟨A4, c4, rfl⟩ := O4.out.opn
              rw [hlo] at O4 ⊢
              clear hI
              have hI : (fun X : World => X.cell? ⟨mb, 0, none⟩ = some (.int .i64 (ns.length : Int)) ∧ X.cell? ⟨mb, 1, none⟩ = some (.slice A1 ns.length c1) ∧ X.cell? ⟨mb, 2, none⟩ = some (.slice A2 6 c2)) w19 := ⟨M.out.cell 0, M.out.cell 1, M.out.cell 2⟩
              refine hK _ _ hI ?_
              clear hK K
              repeat
                apply wpSched_q rfl rfl
                case h =>
                  intro w' hI K hK
                  have cc0 : w'.cell? ⟨mb, 0, none⟩ = some (.int .i64 (ns.length : Int)) := hI.1
                  have cc1 : w'.cell? ⟨mb, 1, none⟩ = some (.slice A1 ns.length c1) := hI.2.1
                  have cc2 : w'.cell? ⟨mb, 2, none⟩ = some (.slice A2 6 c2) := hI.2.2
                  simp only [quietV, stillV]
                  go_simp
                  exact hK
                go_simp
              refine wpSched_r rfl rfl ?_ hI
              intro K hK _
              go_simp
              have kr := R.out.cell
              have fr := R.out.frozen
              have lr := R.out.lt
              simp [kr, fr, lr, go_sem]
              have nem : mb ≠ w.heap.size := by have := HM.out; have := ZR.out; omega
              have hI2 : (fun X : World => X.cell? ⟨mb, 0, none⟩ = some (.int .i64 (ns.length : Int)) ∧ X.cell? ⟨mb, 1, none⟩ = some (.slice A1 ns.length c1) ∧ X.cell? ⟨mb, 2, none⟩ = some (.slice A2 6 c2)) (World.setCell (World.setCell (World.setCell w19 ⟨w.heap.size, 0, none⟩ (.int .i64 (ns.length : Int))) ⟨w.heap.size, 1, none⟩ (.slice A1 ns.length c1)) ⟨w.heap.size, 2, none⟩ (.slice A2 6 c2)) := ⟨(((M.out.far (p := ⟨w.heap.size, 0, none⟩) nem _).far (p := ⟨w.heap.size, 1, none⟩) nem _).far (p := ⟨w.heap.size, 2, none⟩) nem _).cell 0, (((M.out.far (p := ⟨w.heap.size, 0, none⟩) nem _).far (p := ⟨w.heap.size, 1, none⟩) nem _).far (p := ⟨w.heap.size, 2, none⟩) nem _).cell 1, (((M.out.far (p := ⟨w.heap.size, 0, none⟩) nem _).far (p := ⟨w.heap.size, 1, none⟩) nem _).far (p := ⟨w.heap.size, 2, none⟩) nem _).cell 2⟩
              refine hK _ _ hI2 ?_
              clear hK K kr fr lr hI
              repeat
                apply wpSched_q rfl rfl
                case h =>
                  intro w' hI K hK
                  have cc : True := trivial
                  simp only [quietV, stillV]
                  go_simp
                  exact hK
                go_simp
              refine wpSched_nil ?_
              try simp only [List.drop_succ_cons, List.drop_zero, List.drop_nil]
              clear hI2 nem
              have kr := R.out.cell
              have fr := R.out.frozen
              have lr := R.out.lt
              have kp := P.out.cell
              have fp := P.out.frozen
              have lp := P.out.lt
              have z1 := ZR.out
              have z2 := ZP.out
              go_wp2
              refine bodyPost_ret (v := .tuple #[.agg #[.int .i64 (ns.length : Int), .slice A1 ns.length c1, .slice A2 6 c2], .slice A3 (enc f).length c3, .agg #[.int .i64 (j : Int), .slice A4 j c4]]) (by simp [results, Tryz.results19, go_sem, kr, fr, lr, kp, fp, lp]) rfl ⟨(ns.length : Int), (j : Int), _, _, _, _, (li ns), (li us), (enc f), lo, rfl, hL1, hL2, hL3, HLL.out, ?_, ?_, ?_, ?_, ?_⟩
              · exact ((((((P1.out.low (p := ⟨w.heap.size, 0, none⟩) z1 _).low (p := ⟨w.heap.size, 1, none⟩) z1 _).low (p := ⟨w.heap.size, 2, none⟩) z1 _).low (p := ⟨w.heap.size + 1, 0, none⟩) z2 _).low (p := ⟨w.heap.size + 1, 1, none⟩) z2 _)).mono (Nat.le_of_lt z1)
              · exact ((((((P2.out.low (p := ⟨w.heap.size, 0, none⟩) z1 _).low (p := ⟨w.heap.size, 1, none⟩) z1 _).low (p := ⟨w.heap.size, 2, none⟩) z1 _).low (p := ⟨w.heap.size + 1, 0, none⟩) z2 _).low (p := ⟨w.heap.size + 1, 1, none⟩) z2 _)).mono (Nat.le_of_lt z1)
              · exact ((((((P3.out.low (p := ⟨w.heap.size, 0, none⟩) z1 _).low (p := ⟨w.heap.size, 1, none⟩) z1 _).low (p := ⟨w.heap.size, 2, none⟩) z1 _).low (p := ⟨w.heap.size + 1, 0, none⟩) z2 _).low (p := ⟨w.heap.size + 1, 1, none⟩) z2 _)).mono (Nat.le_of_lt z1)
              · exact (((((((O4.out).ro.low (p := ⟨w.heap.size, 0, none⟩) z1 _).low (p := ⟨w.heap.size, 1, none⟩) z1 _).low (p := ⟨w.heap.size, 2, none⟩) z1 _).low (p := ⟨w.heap.size + 1, 0, none⟩) z2 _).low (p := ⟨w.heap.size + 1, 1, none⟩) z2 _)).mono (Nat.le_of_lt z1)
              · exact ((((((below_grown HB1.out D.out.gr (Nat.le_of_lt z1) (fun k e => by have e1 : W.heap.size = k := Option.some.inj e; have := ZG.out; omega)).setCell (p := ⟨w.heap.size, 0, none⟩) (Nat.le_refl _) _).setCell (p := ⟨w.heap.size, 1, none⟩) (Nat.le_refl _) _).setCell (p := ⟨w.heap.size, 2, none⟩) (Nat.le_refl _) _).setCell (p := ⟨w.heap.size + 1, 0, none⟩) (Nat.le_succ _) _).setCell (p := ⟨w.heap.size + 1, 1, none⟩) (Nat.le_succ _) _)
            · clear hk4
              go_wp2_with fail
              refine (spec_l01Next _ _ _ _ _ (j : Int) D.out.S (by omega) (by omega)).mono ?_
              rintro e w20 ⟨k1, rfl, hk1, hS, hg, -⟩
              replace P1 := Lib.hid (D.out.passR P1.out (Nat.le_refl _) hg)
              replace P2 := Lib.hid (D.out.passR P2.out (Nat.le_refl _) hg)
              replace P3 := Lib.hid (D.out.passR P3.out (Nat.le_refl _) hg)
              replace LO := Lib.hid (D.out.pass LO.out hg)
              replace HO := Lib.hid (D.out.pass HO.out hg)
              replace R := Lib.hid (R.out.grown hg (fun e => NER.out (Option.some.inj e)))
              replace P := Lib.hid (P.out.grown hg (fun e => NEP.out (Option.some.inj e)))
              replace M := Lib.hid (D.out.blk M.out HM.out hg)
              replace D := Lib.hid (D.out.call hS hg)
              clear hS hg
              have hk1' : k1 < j := by omega
              clear hk1
              go_wp2_with fail
              refine (spec_one8W _ _ (by omega) (by omega)).mono ?_
              rintro e w40 ⟨y, rfl, hy1, hy2, rfl⟩
              go_wp2_with fail
              refine (spec_l01Next _ _ _ _ _ (y : Int) D.out.S (by omega) (by omega)).mono ?_
              rintro e w21 ⟨k2, rfl, hk2, hS, hg, -⟩
              replace P1 := Lib.hid (D.out.passR P1.out (Nat.le_refl _) hg)
              replace P2 := Lib.hid (D.out.passR P2.out (Nat.le_refl _) hg)
              replace P3 := Lib.hid (D.out.passR P3.out (Nat.le_refl _) hg)
              replace LO := Lib.hid (D.out.pass LO.out hg)
              replace HO := Lib.hid (D.out.pass HO.out hg)
              replace R := Lib.hid (R.out.grown hg (fun e => NER.out (Option.some.inj e)))
              replace P := Lib.hid (P.out.grown hg (fun e => NEP.out (Option.some.inj e)))
              replace M := Lib.hid (D.out.blk M.out HM.out hg)
              replace D := Lib.hid (D.out.call hS hg)
              clear hS hg
              clear hk2 hy1 hy2
              obtain ⟨gl, cc, hv, gB, gl2, -⟩ := LO.out.form (by omega)
              injection hv with hA hN hC
              subst hA
              subst hC
              clear hN
              have hmt : k1 < lo.length := by omega
              obtain ⟨c2v, f2v, -, -⟩ := LO.out.at1 rfl hmt rfl
              have QLO := Lib.hid (LO.out.set1 (j := k1) (x := (k2 : Int)) (u := .int .i64 (k2 : Int)) rfl rfl hmt)
              have QP1 := Lib.hid (P1.out.far (p := ⟨gl, k1, none⟩) (fun e => by have := B1.out gl e; have := NLM.out gl rfl; omega) (.int .i64 (k2 : Int)))
              have QP2 := Lib.hid (P2.out.far (p := ⟨gl, k1, none⟩) (fun e => by have := B2.out gl e; have := NLM.out gl rfl; omega) (.int .i64 (k2 : Int)))
              have QP3 := Lib.hid (P3.out.far (p := ⟨gl, k1, none⟩) (fun e => by have := B3.out gl e; have := NLM.out gl rfl; omega) (.int .i64 (k2 : Int)))
              have QR := Lib.hid (R.out.far (p := ⟨gl, k1, none⟩) (fun e => by have e1 : w.heap.size = gl := e; have := ZR.out; omega) (.int .i64 (k2 : Int)))
              have QP := Lib.hid (P.out.far (p := ⟨gl, k1, none⟩) (fun e => by have e1 : w.heap.size + 1 = gl := e; have := ZP.out; omega) (.int .i64 (k2 : Int)))
              have QM := Lib.hid (M.out.far (p := ⟨gl, k1, none⟩) (fun e => by have e1 : mb = gl := e; have := NLM.out gl rfl; omega) (.int .i64 (k2 : Int)))
              have QD := Lib.hid (D.out.set (p := ⟨gl, k1, none⟩) gB (.int .i64 (k2 : Int)))
              have hlo2 : (lo.set k1 (k2 : Int)).length = j := by rw [List.length_set]; exact hlo
              go_upto_region 13 with fail
              generalize World.setCell w21 _ _ = W9 at *
              clear c2v f2v hmt HO LO P1 P2 P3 R P M D
              have LO := QLO
              have P1 := QP1
              have P2 := QP2
              have P3 := QP3
              have R := QR
              have P := QP
              have M := QM
              have D := QD
              clear QLO QP1 QP2 QP3 QR QP QM QD
              have HLL : Hid ((lo.set k1 (k2 : Int)).length ≤ 9) := Lib.hid (by have := hlo2; omega)
              go_upto_region 13 with fail
              have hb := (Below.refl W9.heap.size W9).drew
              replace P1 := Lib.hid (P1.out.below hb)
              replace P2 := Lib.hid (P2.out.below hb)
              replace P3 := Lib.hid (P3.out.below hb)
              replace LO := Lib.hid (LO.out.below hb)
              replace R := Lib.hid (R.out.below hb R.out.lt)
              replace P := Lib.hid (P.out.below hb P.out.lt)
              replace M := Lib.hid (M.out.below hb M.out.lt)
              replace D := Lib.hid (D.out.below hb)
              clear hb
              have hI : (fun X : World => X.cell? ⟨mb, 0, none⟩ = some (.int .i64 (ns.length : Int)) ∧ X.cell? ⟨mb, 1, none⟩ = some (.slice A1 ns.length c1) ∧ X.cell? ⟨mb, 2, none⟩ = some (.slice A2 6 c2)) (World.drew W9) := ⟨M.out.cell 0, M.out.cell 1, M.out.cell 2⟩
              refine wp_region_sched (fun X => X.cell? ⟨mb, 0, none⟩ = some (.int .i64 (ns.length : Int)) ∧ X.cell? ⟨mb, 1, none⟩ = some (.slice A1 ns.length c1) ∧ X.cell? ⟨mb, 2, none⟩ = some (.slice A2 6 c2)) 6 [0, 1, 2, 5] [0, 1, 2, 3, 4, 5] (by kernel_rfl) (by kernel_rfl) hI ?_
              generalize World.drew W9 = W9d at *
              repeat
                apply wpSched_q rfl rfl
                case h =>
                  intro w' hI K hK
                  have cc0 : w'.cell? ⟨mb, 0, none⟩ = some (.int .i64 (ns.length : Int)) := hI.1
                  have cc1 : w'.cell? ⟨mb, 1, none⟩ = some (.slice A1 ns.length c1) := hI.2.1
                  have cc2 : w'.cell? ⟨mb, 2, none⟩ = some (.slice A2 6 c2) := hI.2.2
                  simp only [quietV, stillV]
                  go_simp
                  exact hK
                go_simp
              refine wpSched_r rfl rfl ?_ hI
              intro K hK _
              go_simp
              refine (spec_l05Make _ (lo.set k1 (k2 : Int)) _ LO.out.sl (by have := HLL.out; omega)).mono ?_
              rintro e w22 ⟨u4, rfl, O4, hb⟩
              replace O4 := Lib.hid (D.out.made O4)
              replace P1 := Lib.hid (P1.out.below hb)
              replace P2 := Lib.hid (P2.out.below hb)
              replace P3 := Lib.hid (P3.out.below hb)
              replace LO := Lib.hid (LO.out.below hb)
              replace R := Lib.hid (R.out.below hb R.out.lt)
              replace P := Lib.hid (P.out.below hb P.out.lt)
              replace M := Lib.hid (M.out.below hb M.out.lt)
              replace D := Lib.hid (D.out.below hb)
              clear hb
              obtain ⟨A4, c4, rfl⟩ := O4.out.opn
              rw [hlo2] at O4 ⊢
              clear hI
              have hI : (fun X : World => X.cell? ⟨mb, 0, none⟩ = some (.int .i64 (ns.length : Int)) ∧ X.cell? ⟨mb, 1, none⟩ = some (.slice A1 ns.length c1) ∧ X.cell? ⟨mb, 2, none⟩ = some (.slice A2 6 c2)) w22 := ⟨M.out.cell 0, M.out.cell 1, M.out.cell 2⟩
              refine hK _ _ hI ?_
              clear hK K
              repeat
                apply wpSched_q rfl rfl
                case h =>
                  intro w' hI K hK
                  have cc0 : w'.cell? ⟨mb, 0, none⟩ = some (.int .i64 (ns.length : Int)) := hI.1
                  have cc1 : w'.cell? ⟨mb, 1, none⟩ = some (.slice A1 ns.length c1) := hI.2.1
                  have cc2 : w'.cell? ⟨mb, 2, none⟩ = some (.slice A2 6 c2) := hI.2.2
                  simp only [quietV, stillV]
                  go_simp
                  exact hK
                go_simp
              refine wpSched_r rfl rfl ?_ hI
              intro K hK _
              go_simp
              have kr := R.out.cell
              have fr := R.out.frozen
              have lr := R.out.lt
              simp [kr, fr, lr, go_sem]
              have nem : mb ≠ w.heap.size := by have := HM.out; have := ZR.out; omega
              have hI2 : (fun X : World => X.cell? ⟨mb, 0, none⟩ = some (.int .i64 (ns.length : Int)) ∧ X.cell? ⟨mb, 1, none⟩ = some (.slice A1 ns.length c1) ∧ X.cell? ⟨mb, 2, none⟩ = some (.slice A2 6 c2)) (World.setCell (World.setCell (World.setCell w22 ⟨w.heap.size, 0, none⟩ (.int .i64 (ns.length : Int))) ⟨w.heap.size, 1, none⟩ (.slice A1 ns.length c1)) ⟨w.heap.size, 2, none⟩ (.slice A2 6 c2)) := ⟨(((M.out.far (p := ⟨w.heap.size, 0, none⟩) nem _).far (p := ⟨w.heap.size, 1, none⟩) nem _).far (p := ⟨w.heap.size, 2, none⟩) nem _).cell 0, (((M.out.far (p := ⟨w.heap.size, 0, none⟩) nem _).far (p := ⟨w.heap.size, 1, none⟩) nem _).far (p := ⟨w.heap.size, 2, none⟩) nem _).cell 1, (((M.out.far (p := ⟨w.heap.size, 0, none⟩) nem _).far (p := ⟨w.heap.size, 1, none⟩) nem _).far (p := ⟨w.heap.size, 2, none⟩) nem _).cell 2⟩
              refine hK _ _ hI2 ?_
              clear hK K kr fr lr hI
              repeat
                apply wpSched_q rfl rfl
                case h =>
                  intro w' hI K hK
                  have cc : True := trivial
                  simp only [quietV, stillV]
                  go_simp
                  exact hK
                go_simp
              refine wpSched_nil ?_
              try simp only [List.drop_succ_cons, List.drop_zero, List.drop_nil]
              clear hI2 nem
              have kr := R.out.cell
              have fr := R.out.frozen
              have lr := R.out.lt
              have kp := P.out.cell
              have fp := P.out.frozen
              have lp := P.out.lt
              have z1 := ZR.out
              have z2 := ZP.out
              go_wp2
              refine bodyPost_ret (v := .tuple #[.agg #[.int .i64 (ns.length : Int), .slice A1 ns.length c1, .slice A2 6 c2], .slice A3 (enc f).length c3, .agg #[.int .i64 (j : Int), .slice A4 j c4]]) (by simp [results, Tryz.results19, go_sem, kr, fr, lr, kp, fp, lp]) rfl ⟨(ns.length : Int), (j : Int), _, _, _, _, (li ns), (li us), (enc f), (lo.set k1 (k2 : Int)), rfl, hL1, hL2, hL3, HLL.out, ?_, ?_, ?_, ?_, ?_⟩
              · exact ((((((P1.out.low (p := ⟨w.heap.size, 0, none⟩) z1 _).low (p := ⟨w.heap.size, 1, none⟩) z1 _).low (p := ⟨w.heap.size, 2, none⟩) z1 _).low (p := ⟨w.heap.size + 1, 0, none⟩) z2 _).low (p := ⟨w.heap.size + 1, 1, none⟩) z2 _)).mono (Nat.le_of_lt z1)
              · exact ((((((P2.out.low (p := ⟨w.heap.size, 0, none⟩) z1 _).low (p := ⟨w.heap.size, 1, none⟩) z1 _).low (p := ⟨w.heap.size, 2, none⟩) z1 _).low (p := ⟨w.heap.size + 1, 0, none⟩) z2 _).low (p := ⟨w.heap.size + 1, 1, none⟩) z2 _)).mono (Nat.le_of_lt z1)
              · exact ((((((P3.out.low (p := ⟨w.heap.size, 0, none⟩) z1 _).low (p := ⟨w.heap.size, 1, none⟩) z1 _).low (p := ⟨w.heap.size, 2, none⟩) z1 _).low (p := ⟨w.heap.size + 1, 0, none⟩) z2 _).low (p := ⟨w.heap.size + 1, 1, none⟩) z2 _)).mono (Nat.le_of_lt z1)
              · exact (((((((O4.out).ro.low (p := ⟨w.heap.size, 0, none⟩) z1 _).low (p := ⟨w.heap.size, 1, none⟩) z1 _).low (p := ⟨w.heap.size, 2, none⟩) z1 _).low (p := ⟨w.heap.size + 1, 0, none⟩) z2 _).low (p := ⟨w.heap.size + 1, 1, none⟩) z2 _)).mono (Nat.le_of_lt z1)
              · exact ((((((below_grown HB1.out D.out.gr (Nat.le_of_lt z1) (fun k e => by have e1 : W.heap.size = k := Option.some.inj e; have := ZG.out; omega)).setCell (p := ⟨w.heap.size, 0, none⟩) (Nat.le_refl _) _).setCell (p := ⟨w.heap.size, 1, none⟩) (Nat.le_refl _) _).setCell (p := ⟨w.heap.size, 2, none⟩) (Nat.le_refl _) _).setCell (p := ⟨w.heap.size + 1, 0, none⟩) (Nat.le_succ _) _).setCell (p := ⟨w.heap.size + 1, 1, none⟩) (Nat.le_succ _) _)
          · skip
            have HLL : Hid (lo.length ≤ 9) := Lib.hid (by have := hlo; omega)
            go_upto_region 13 with fail
            have hb := (Below.refl wr.heap.size wr).drew
            replace P1 := Lib.hid (P1.out.below hb)
            replace P2 := Lib.hid (P2.out.below hb)
            replace P3 := Lib.hid (P3.out.below hb)
            replace LO := Lib.hid (LO.out.below hb)
            replace HO := Lib.hid (HO.out.below hb)
            replace R := Lib.hid (R.out.below hb R.out.lt)
            replace P := Lib.hid (P.out.below hb P.out.lt)
            replace M := Lib.hid (M.out.below hb M.out.lt)
            replace D := Lib.hid (D.out.below hb)
            clear hb
            have hI : (fun X : World => X.cell? ⟨mb, 0, none⟩ = some (.int .i64 (ns.length : Int)) ∧ X.cell? ⟨mb, 1, none⟩ = some (.slice A1 ns.length c1) ∧ X.cell? ⟨mb, 2, none⟩ = some (.slice A2 6 c2)) (World.drew wr) := ⟨M.out.cell 0, M.out.cell 1, M.out.cell 2⟩
            refine wp_region_sched (fun X => X.cell? ⟨mb, 0, none⟩ = some (.int .i64 (ns.length : Int)) ∧ X.cell? ⟨mb, 1, none⟩ = some (.slice A1 ns.length c1) ∧ X.cell? ⟨mb, 2, none⟩ = some (.slice A2 6 c2)) 6 [0, 1, 2, 5] [0, 1, 2, 3, 4, 5] (by kernel_rfl) (by kernel_rfl) hI ?_
            generalize World.drew wr = wrd at *
            repeat
              apply wpSched_q rfl rfl
              case h =>
                intro w' hI K hK
                have cc0 : w'.cell? ⟨mb, 0, none⟩ = some (.int .i64 (ns.length : Int)) := hI.1
                have cc1 : w'.cell? ⟨mb, 1, none⟩ = some (.slice A1 ns.length c1) := hI.2.1
                have cc2 : w'.cell? ⟨mb, 2, none⟩ = some (.slice A2 6 c2) := hI.2.2
                simp only [quietV, stillV]
                go_simp
                exact hK
              go_simp
            refine wpSched_r rfl rfl ?_ hI
            intro K hK _
            go_simp
            refine (spec_l05Make _ lo _ LO.out.sl (by have := HLL.out; omega)).mono ?_
            rintro e w23 ⟨u4, rfl, O4, hb⟩
            replace O4 := Lib.hid (D.out.made O4)
            replace P1 := Lib.hid (P1.out.below hb)
            replace P2 := Lib.hid (P2.out.below hb)
            replace P3 := Lib.hid (P3.out.below hb)
            replace LO := Lib.hid (LO.out.below hb)
            replace HO := Lib.hid (HO.out.below hb)
            replace R := Lib.hid (R.out.below hb R.out.lt)
            replace P := Lib.hid (P.out.below hb P.out.lt)
            replace M := Lib.hid (M.out.below hb M.out.lt)
            replace D := Lib.hid (D.out.below hb)
            clear hb
            obtain ⟨A4, c4, rfl⟩ := O4.out.opn
            rw [hlo] at O4 ⊢
            clear hI
            have hI : (fun X : World => X.cell? ⟨mb, 0, none⟩ = some (.int .i64 (ns.length : Int)) ∧ X.cell? ⟨mb, 1, none⟩ = some (.slice A1 ns.length c1) ∧ X.cell? ⟨mb, 2, none⟩ = some (.slice A2 6 c2)) w23 := ⟨M.out.cell 0, M.out.cell 1, M.out.cell 2⟩
            refine hK _ _ hI ?_
            clear hK K
            repeat
              apply wpSched_q rfl rfl
              case h =>
                intro w' hI K hK
                have cc0 : w'.cell? ⟨mb, 0, none⟩ = some (.int .i64 (ns.length : Int)) := hI.1
                have cc1 : w'.cell? ⟨mb, 1, none⟩ = some (.slice A1 ns.length c1) := hI.2.1
                have cc2 : w'.cell? ⟨mb, 2, none⟩ = some (.slice A2 6 c2) := hI.2.2
                simp only [quietV, stillV]
                go_simp
                exact hK
              go_simp
            refine wpSched_r rfl rfl ?_ hI
            intro K hK _
            go_simp
            have kr := R.out.cell
            have fr := R.out.frozen
            have lr := R.out.lt
            simp [kr, fr, lr, go_sem]
            have nem : mb ≠ w.heap.size := by have := HM.out; have := ZR.out; omega
            have hI2 : (fun X : World => X.cell? ⟨mb, 0, none⟩ = some (.int .i64 (ns.length : Int)) ∧ X.cell? ⟨mb, 1, none⟩ = some (.slice A1 ns.length c1) ∧ X.cell? ⟨mb, 2, none⟩ = some (.slice A2 6 c2)) (World.setCell (World.setCell (World.setCell w23 ⟨w.heap.size, 0, none⟩ (.int .i64 (ns.length : Int))) ⟨w.heap.size, 1, none⟩ (.slice A1 ns.length c1)) ⟨w.heap.size, 2, none⟩ (.slice A2 6 c2)) := ⟨(((M.out.far (p := ⟨w.heap.size, 0, none⟩) nem _).far (p := ⟨w.heap.size, 1, none⟩) nem _).far (p := ⟨w.heap.size, 2, none⟩) nem _).cell 0, (((M.out.far (p := ⟨w.heap.size, 0, none⟩) nem _).far (p := ⟨w.heap.size, 1, none⟩) nem _).far (p := ⟨w.heap.size, 2, none⟩) nem _).cell 1, (((M.out.far (p := ⟨w.heap.size, 0, none⟩) nem _).far (p := ⟨w.heap.size, 1, none⟩) nem _).far (p := ⟨w.heap.size, 2, none⟩) nem _).cell 2⟩
            refine hK _ _ hI2 ?_
            clear hK K kr fr lr hI
            repeat
              apply wpSched_q rfl rfl
              case h =>
                intro w' hI K hK
                have cc : True := trivial
                simp only [quietV, stillV]
                go_simp
                exact hK
              go_simp
            refine wpSched_nil ?_
            try simp only [List.drop_succ_cons, List.drop_zero, List.drop_nil]
            clear hI2 nem
            have kr := R.out.cell
            have fr := R.out.frozen
            have lr := R.out.lt
            have kp := P.out.cell
            have fp := P.out.frozen
            have lp := P.out.lt
            have z1 := ZR.out
            have z2 := ZP.out
            go_wp2
            refine bodyPost_ret (v := .tuple #[.agg #[.int .i64 (ns.length : Int), .slice A1 ns.length c1, .slice A2 6 c2], .slice A3 (enc f).length c3, .agg #[.int .i64 (j : Int), .slice A4 j c4]]) (by simp [results, Tryz.results19, go_sem, kr, fr, lr, kp, fp, lp]) rfl ⟨(ns.length : Int), (j : Int), _, _, _, _, (li ns), (li us), (enc f), lo, rfl, hL1, hL2, hL3, HLL.out, ?_, ?_, ?_, ?_, ?_⟩
            · exact ((((((P1.out.low (p := ⟨w.heap.size, 0, none⟩) z1 _).low (p := ⟨w.heap.size, 1, none⟩) z1 _).low (p := ⟨w.heap.size, 2, none⟩) z1 _).low (p := ⟨w.heap.size + 1, 0, none⟩) z2 _).low (p := ⟨w.heap.size + 1, 1, none⟩) z2 _)).mono (Nat.le_of_lt z1)
            · exact ((((((P2.out.low (p := ⟨w.heap.size, 0, none⟩) z1 _).low (p := ⟨w.heap.size, 1, none⟩) z1 _).low (p := ⟨w.heap.size, 2, none⟩) z1 _).low (p := ⟨w.heap.size + 1, 0, none⟩) z2 _).low (p := ⟨w.heap.size + 1, 1, none⟩) z2 _)).mono (Nat.le_of_lt z1)
            · exact ((((((P3.out.low (p := ⟨w.heap.size, 0, none⟩) z1 _).low (p := ⟨w.heap.size, 1, none⟩) z1 _).low (p := ⟨w.heap.size, 2, none⟩) z1 _).low (p := ⟨w.heap.size + 1, 0, none⟩) z2 _).low (p := ⟨w.heap.size + 1, 1, none⟩) z2 _)).mono (Nat.le_of_lt z1)
            · exact (((((((O4.out).ro.low (p := ⟨w.heap.size, 0, none⟩) z1 _).low (p := ⟨w.heap.size, 1, none⟩) z1 _).low (p := ⟨w.heap.size, 2, none⟩) z1 _).low (p := ⟨w.heap.size + 1, 0, none⟩) z2 _).low (p := ⟨w.heap.size + 1, 1, none⟩) z2 _)).mono (Nat.le_of_lt z1)
            · exact ((((((below_grown HB1.out D.out.gr (Nat.le_of_lt z1) (fun k e => by have e1 : W.heap.size = k := Option.some.inj e; have := ZG.out; omega)).setCell (p := ⟨w.heap.size, 0, none⟩) (Nat.le_refl _) _).setCell (p := ⟨w.heap.size, 1, none⟩) (Nat.le_refl _) _).setCell (p := ⟨w.heap.size, 2, none⟩) (Nat.le_refl _) _).setCell (p := ⟨w.heap.size + 1, 0, none⟩) (Nat.le_succ _) _).setCell (p := ⟨w.heap.size + 1, 1, none⟩) (Nat.le_succ _) _)
    · clear hk8
      clear S1 S2 S3 S4 S5
      go_upto_region 5 with fail
      have hb := (Below.refl w4.heap.size w4).drew
      replace P1 := Lib.hid (P1.out.below hb)
      replace P2 := Lib.hid (P2.out.below hb)
      replace P3 := Lib.hid (P3.out.below hb)
      replace R := Lib.hid (R.out.below hb R.out.lt)
      replace P := Lib.hid (P.out.below hb P.out.lt)
      replace M := Lib.hid (M.out.below hb M.out.lt)
      replace S := Lib.hid (S.out.below hb S.out.lt)
      replace D := Lib.hid (D.out.below hb)
      clear hb
      have hI : (fun X : World => X.cell? ⟨mb, 0, none⟩ = some (.int .i64 (ns.length : Int)) ∧ X.cell? ⟨mb, 1, none⟩ = some (.slice A1 ns.length c1) ∧ X.cell? ⟨mb, 2, none⟩ = some (.slice A2 6 c2)) (World.drew w4) := ⟨M.out.cell 0, M.out.cell 1, M.out.cell 2⟩
      refine wp_region_sched (fun X => X.cell? ⟨mb, 0, none⟩ = some (.int .i64 (ns.length : Int)) ∧ X.cell? ⟨mb, 1, none⟩ = some (.slice A1 ns.length c1) ∧ X.cell? ⟨mb, 2, none⟩ = some (.slice A2 6 c2)) 6 [0, 1, 2, 5] [0, 1, 2, 3, 4, 5] (by kernel_rfl) (by kernel_rfl) hI ?_
      generalize World.drew w4 = w4d at *
      repeat
        apply wpSched_q rfl rfl
        case h =>
          intro w' hI K hK
          have cc0 : w'.cell? ⟨mb, 0, none⟩ = some (.int .i64 (ns.length : Int)) := hI.1
          have cc1 : w'.cell? ⟨mb, 1, none⟩ = some (.slice A1 ns.length c1) := hI.2.1
          have cc2 : w'.cell? ⟨mb, 2, none⟩ = some (.slice A2 6 c2) := hI.2.2
          simp only [quietV, stillV]
          go_simp
          exact hK
        go_simp
      refine wpSched_r rfl rfl ?_ hI
      intro K hK _
      go_simp
      refine (spec_l05Draw _ _ _ _ _ 4 D.out.S (by decide)).mono ?_
      rintro e w24 ⟨k4, u4, L4, rfl, -, hL4, O4, hS, hg⟩
      replace O4 := Lib.hid (D.out.made O4)
      replace P1 := Lib.hid (D.out.passR P1.out (Nat.le_refl _) hg)
      replace P2 := Lib.hid (D.out.passR P2.out (Nat.le_refl _) hg)
      replace P3 := Lib.hid (D.out.passR P3.out (Nat.le_refl _) hg)
      replace R := Lib.hid (R.out.grown hg (fun e => NER.out (Option.some.inj e)))
      replace P := Lib.hid (P.out.grown hg (fun e => NEP.out (Option.some.inj e)))
      replace M := Lib.hid (D.out.blk M.out HM.out hg)
      replace S := Lib.hid (D.out.blk S.out HS.out hg)
      replace D := Lib.hid (D.out.call hS hg)
      clear hS hg
      obtain ⟨A4, c4, rfl⟩ := O4.out.opn
      clear hI
      have hI : (fun X : World => X.cell? ⟨mb, 0, none⟩ = some (.int .i64 (ns.length : Int)) ∧ X.cell? ⟨mb, 1, none⟩ = some (.slice A1 ns.length c1) ∧ X.cell? ⟨mb, 2, none⟩ = some (.slice A2 6 c2)) w24 := ⟨M.out.cell 0, M.out.cell 1, M.out.cell 2⟩
      refine hK _ _ hI ?_
      clear hK K
      repeat
        apply wpSched_q rfl rfl
        case h =>
          intro w' hI K hK
          have cc0 : w'.cell? ⟨mb, 0, none⟩ = some (.int .i64 (ns.length : Int)) := hI.1
          have cc1 : w'.cell? ⟨mb, 1, none⟩ = some (.slice A1 ns.length c1) := hI.2.1
          have cc2 : w'.cell? ⟨mb, 2, none⟩ = some (.slice A2 6 c2) := hI.2.2
          simp only [quietV, stillV]
          go_simp
          exact hK
        go_simp
      refine wpSched_r rfl rfl ?_ hI
      intro K hK _
      go_simp
      have kr := R.out.cell
      have fr := R.out.frozen
      have lr := R.out.lt
      simp [kr, fr, lr, go_sem]
      have nem : mb ≠ w.heap.size := by have := HM.out; have := ZR.out; omega
      have hI2 : (fun X : World => X.cell? ⟨mb, 0, none⟩ = some (.int .i64 (ns.length : Int)) ∧ X.cell? ⟨mb, 1, none⟩ = some (.slice A1 ns.length c1) ∧ X.cell? ⟨mb, 2, none⟩ = some (.slice A2 6 c2)) (World.setCell (World.setCell (World.setCell w24 ⟨w.heap.size, 0, none⟩ (.int .i64 (ns.length : Int))) ⟨w.heap.size, 1, none⟩ (.slice A1 ns.length c1)) ⟨w.heap.size, 2, none⟩ (.slice A2 6 c2)) := ⟨(((M.out.far (p := ⟨w.heap.size, 0, none⟩) nem _).far (p := ⟨w.heap.size, 1, none⟩) nem _).far (p := ⟨w.heap.size, 2, none⟩) nem _).cell 0, (((M.out.far (p := ⟨w.heap.size, 0, none⟩) nem _).far (p := ⟨w.heap.size, 1, none⟩) nem _).far (p := ⟨w.heap.size, 2, none⟩) nem _).cell 1, (((M.out.far (p := ⟨w.heap.size, 0, none⟩) nem _).far (p := ⟨w.heap.size, 1, none⟩) nem _).far (p := ⟨w.heap.size, 2, none⟩) nem _).cell 2⟩
      refine hK _ _ hI2 ?_
      clear hK K kr fr lr hI
      repeat
        apply wpSched_q rfl rfl
        case h =>
          intro w' hI K hK
          have cc : True := trivial
          simp only [quietV, stillV]
          go_simp
          exact hK
        go_simp
      refine wpSched_nil ?_
      try simp only [List.drop_succ_cons, List.drop_zero, List.drop_nil]
      clear hI2 nem
      have kr := R.out.cell
      have fr := R.out.frozen
      have lr := R.out.lt
      have kp := P.out.cell
      have fp := P.out.frozen
      have lp := P.out.lt
      have z1 := ZR.out
      have z2 := ZP.out
      go_wp2
      refine bodyPost_ret (v := .tuple #[.agg #[.int .i64 (ns.length : Int), .slice A1 ns.length c1, .slice A2 6 c2], .slice A3 (enc f).length c3, .agg #[.int .i64 k4, .slice A4 L4.length c4]]) (by simp [results, Tryz.results19, go_sem, kr, fr, lr, kp, fp, lp]) rfl ⟨(ns.length : Int), k4, _, _, _, _, (li ns), (li us), (enc f), L4, rfl, hL1, hL2, hL3, hL4, ?_, ?_, ?_, ?_, ?_⟩
      · exact ((((((P1.out.low (p := ⟨w.heap.size, 0, none⟩) z1 _).low (p := ⟨w.heap.size, 1, none⟩) z1 _).low (p := ⟨w.heap.size, 2, none⟩) z1 _).low (p := ⟨w.heap.size + 1, 0, none⟩) z2 _).low (p := ⟨w.heap.size + 1, 1, none⟩) z2 _)).mono (Nat.le_of_lt z1)
      · exact ((((((P2.out.low (p := ⟨w.heap.size, 0, none⟩) z1 _).low (p := ⟨w.heap.size, 1, none⟩) z1 _).low (p := ⟨w.heap.size, 2, none⟩) z1 _).low (p := ⟨w.heap.size + 1, 0, none⟩) z2 _).low (p := ⟨w.heap.size + 1, 1, none⟩) z2 _)).mono (Nat.le_of_lt z1)
      · exact ((((((P3.out.low (p := ⟨w.heap.size, 0, none⟩) z1 _).low (p := ⟨w.heap.size, 1, none⟩) z1 _).low (p := ⟨w.heap.size, 2, none⟩) z1 _).low (p := ⟨w.heap.size + 1, 0, none⟩) z2 _).low (p := ⟨w.heap.size + 1, 1, none⟩) z2 _)).mono (Nat.le_of_lt z1)
      · exact (((((((O4.out).ro.low (p := ⟨w.heap.size, 0, none⟩) z1 _).low (p := ⟨w.heap.size, 1, none⟩) z1 _).low (p := ⟨w.heap.size, 2, none⟩) z1 _).low (p := ⟨w.heap.size + 1, 0, none⟩) z2 _).low (p := ⟨w.heap.size + 1, 1, none⟩) z2 _)).mono (Nat.le_of_lt z1)
      · exact ((((((below_grown HB1.out D.out.gr (Nat.le_of_lt z1) (fun k e => by have e1 : W.heap.size = k := Option.some.inj e; have := ZG.out; omega)).setCell (p := ⟨w.heap.size, 0, none⟩) (Nat.le_refl _) _).setCell (p := ⟨w.heap.size, 1, none⟩) (Nat.le_refl _) _).setCell (p := ⟨w.heap.size, 2, none⟩) (Nat.le_refl _) _).setCell (p := ⟨w.heap.size + 1, 0, none⟩) (Nat.le_succ _) _).setCell (p := ⟨w.heap.size + 1, 1, none⟩) (Nat.le_succ _) _)
  · have hmd2 : mdOk n L1 L2 = false ∨ (mdOk n L1 L2 = true ∧ isF L3 = false) := by
      cases h1 : mdOk n L1 L2 <;> cases h2 : isF L3 <;> simp_all
    have HC := Lib.hid (fun W a b d => spec_l14Code_bad n (.slice A1 L1.length c1) (.slice A2 L2.length c2) (.slice A3 L3.length c3) L1 L2 L3 W a b d (by omega) (by omega) (by omega) hmd2)
    clear hmd hmd2
    have km := M.out.cell
    have lm := M.out.lt
    go_wp2_with fail
    clear km lm
    refine (HC.out _ P1.out.1 P2.out.1 P3.out.1).mono ?_
    rintro e w25 ⟨rfl, hb⟩
    replace P1 := Lib.hid (P1.out.below hb)
    replace P2 := Lib.hid (P2.out.below hb)
    replace P3 := Lib.hid (P3.out.below hb)
    replace R := Lib.hid (R.out.below hb R.out.lt)
    replace P := Lib.hid (P.out.below hb P.out.lt)
    replace M := Lib.hid (M.out.below hb M.out.lt)
    replace D := Lib.hid (D.out.below hb)
    clear hb HC
    go_upto_region 4 with fail
    have hb := below_alloc' w25 (.cells #[.int .i64 0, .slice none 0 0, .slice none 0 0, .slice none 0 0, .slice none 0 0, .slice none 0 0, .slice none 0 0, .slice none 0 0] 59)
    have S := Lib.hid (Blk.new w25 59 #[.int .i64 0, .slice none 0 0, .slice none 0 0, .slice none 0 0, .slice none 0 0, .slice none 0 0, .slice none 0 0, .slice none 0 0])
    have HS : Hid (w1.heap.size ≤ w25.heap.size) := Lib.hid D.out.size
    replace P1 := Lib.hid (P1.out.below hb)
    replace P2 := Lib.hid (P2.out.below hb)
    replace P3 := Lib.hid (P3.out.below hb)
    replace R := Lib.hid (R.out.below hb R.out.lt)
    replace P := Lib.hid (P.out.below hb P.out.lt)
    replace M := Lib.hid (M.out.below hb M.out.lt)
    replace D := Lib.hid (D.out.below hb)
    clear hb
    obtain ⟨sb, hsb⟩ : ∃ b, w25.heap.size = b := ⟨_, rfl⟩
    generalize World.alloc w25 _ = WS at *
    rw [hsb] at S HS ⊢
    clear hsb
    go_upto_region 5 with fail
    have hb := (Below.refl WS.heap.size WS).drew
    replace P1 := Lib.hid (P1.out.below hb)
    replace P2 := Lib.hid (P2.out.below hb)
    replace P3 := Lib.hid (P3.out.below hb)
    replace R := Lib.hid (R.out.below hb R.out.lt)
    replace P := Lib.hid (P.out.below hb P.out.lt)
    replace M := Lib.hid (M.out.below hb M.out.lt)
    replace S := Lib.hid (S.out.below hb S.out.lt)
    replace D := Lib.hid (D.out.below hb)
    clear hb
    have hI : (fun X : World => X.cell? ⟨mb, 0, none⟩ = some (.int .i64 n) ∧ X.cell? ⟨mb, 1, none⟩ = some (.slice A1 L1.length c1) ∧ X.cell? ⟨mb, 2, none⟩ = some (.slice A2 L2.length c2)) (World.drew WS) := ⟨M.out.cell 0, M.out.cell 1, M.out.cell 2⟩
    refine wp_region_sched (fun X => X.cell? ⟨mb, 0, none⟩ = some (.int .i64 n) ∧ X.cell? ⟨mb, 1, none⟩ = some (.slice A1 L1.length c1) ∧ X.cell? ⟨mb, 2, none⟩ = some (.slice A2 L2.length c2)) 6 [0, 1, 2, 5] [0, 1, 2, 3, 4, 5] (by kernel_rfl) (by kernel_rfl) hI ?_
    generalize World.drew WS = WSd at *
    repeat
      apply wpSched_q rfl rfl
      case h =>
        intro w' hI K hK
        have cc0 : w'.cell? ⟨mb, 0, none⟩ = some (.int .i64 n) := hI.1
        have cc1 : w'.cell? ⟨mb, 1, none⟩ = some (.slice A1 L1.length c1) := hI.2.1
        have cc2 : w'.cell? ⟨mb, 2, none⟩ = some (.slice A2 L2.length c2) := hI.2.2
        simp only [quietV, stillV]
        go_simp
        exact hK
      go_simp
    refine wpSched_r rfl rfl ?_ hI
    intro K hK _
    go_simp
    refine (spec_l05Draw _ _ _ _ _ 4 D.out.S (by decide)).mono ?_
    rintro e w26 ⟨k4, u4, L4, rfl, -, hL4, O4, hS, hg⟩
    replace O4 := Lib.hid (D.out.made O4)
    replace P1 := Lib.hid (D.out.passR P1.out (Nat.le_refl _) hg)
    replace P2 := Lib.hid (D.out.passR P2.out (Nat.le_refl _) hg)
    replace P3 := Lib.hid (D.out.passR P3.out (Nat.le_refl _) hg)
    replace R := Lib.hid (R.out.grown hg (fun e => NER.out (Option.some.inj e)))
    replace P := Lib.hid (P.out.grown hg (fun e => NEP.out (Option.some.inj e)))
    replace M := Lib.hid (D.out.blk M.out HM.out hg)
    replace S := Lib.hid (D.out.blk S.out HS.out hg)
    replace D := Lib.hid (D.out.call hS hg)
    clear hS hg
    obtain ⟨A4, c4, rfl⟩ := O4.out.opn
    clear hI
    have hI : (fun X : World => X.cell? ⟨mb, 0, none⟩ = some (.int .i64 n) ∧ X.cell? ⟨mb, 1, none⟩ = some (.slice A1 L1.length c1) ∧ X.cell? ⟨mb, 2, none⟩ = some (.slice A2 L2.length c2)) w26 := ⟨M.out.cell 0, M.out.cell 1, M.out.cell 2⟩
    refine hK _ _ hI ?_
    clear hK K
    repeat
      apply wpSched_q rfl rfl
      case h =>
        intro w' hI K hK
        have cc0 : w'.cell? ⟨mb, 0, none⟩ = some (.int .i64 n) := hI.1
        have cc1 : w'.cell? ⟨mb, 1, none⟩ = some (.slice A1 L1.length c1) := hI.2.1
        have cc2 : w'.cell? ⟨mb, 2, none⟩ = some (.slice A2 L2.length c2) := hI.2.2
        simp only [quietV, stillV]
        go_simp
        exact hK
      go_simp
    refine wpSched_r rfl rfl ?_ hI
    intro K hK _
    go_simp
    have kr := R.out.cell
    have fr := R.out.frozen
    have lr := R.out.lt
    simp [kr, fr, lr, go_sem]
    have nem : mb ≠ w.heap.size := by have := HM.out; have := ZR.out; omega
    have hI2 : (fun X : World => X.cell? ⟨mb, 0, none⟩ = some (.int .i64 n) ∧ X.cell? ⟨mb, 1, none⟩ = some (.slice A1 L1.length c1) ∧ X.cell? ⟨mb, 2, none⟩ = some (.slice A2 L2.length c2)) (World.setCell (World.setCell (World.setCell w26 ⟨w.heap.size, 0, none⟩ (.int .i64 n)) ⟨w.heap.size, 1, none⟩ (.slice A1 L1.length c1)) ⟨w.heap.size, 2, none⟩ (.slice A2 L2.length c2)) := ⟨(((M.out.far (p := ⟨w.heap.size, 0, none⟩) nem _).far (p := ⟨w.heap.size, 1, none⟩) nem _).far (p := ⟨w.heap.size, 2, none⟩) nem _).cell 0, (((M.out.far (p := ⟨w.heap.size, 0, none⟩) nem _).far (p := ⟨w.heap.size, 1, none⟩) nem _).far (p := ⟨w.heap.size, 2, none⟩) nem _).cell 1, (((M.out.far (p := ⟨w.heap.size, 0, none⟩) nem _).far (p := ⟨w.heap.size, 1, none⟩) nem _).far (p := ⟨w.heap.size, 2, none⟩) nem _).cell 2⟩
    refine hK _ _ hI2 ?_
    clear hK K kr fr lr hI
    repeat
      apply wpSched_q rfl rfl
      case h =>
        intro w' hI K hK
        have cc : True := trivial
        simp only [quietV, stillV]
        go_simp
        exact hK
      go_simp
    refine wpSched_nil ?_
    try simp only [List.drop_succ_cons, List.drop_zero, List.drop_nil]
    clear hI2 nem
    have kr := R.out.cell
    have fr := R.out.frozen
    have lr := R.out.lt
    have kp := P.out.cell
    have fp := P.out.frozen
    have lp := P.out.lt
    have z1 := ZR.out
    have z2 := ZP.out
    go_wp2
    refine bodyPost_ret (v := .tuple #[.agg #[.int .i64 n, .slice A1 L1.length c1, .slice A2 L2.length c2], .slice A3 L3.length c3, .agg #[.int .i64 k4, .slice A4 L4.length c4]]) (by simp [results, Tryz.results19, go_sem, kr, fr, lr, kp, fp, lp]) rfl ⟨n, k4, _, _, _, _, L1, L2, L3, L4, rfl, hL1, hL2, hL3, hL4, ?_, ?_, ?_, ?_, ?_⟩
    · exact ((((((P1.out.low (p := ⟨w.heap.size, 0, none⟩) z1 _).low (p := ⟨w.heap.size, 1, none⟩) z1 _).low (p := ⟨w.heap.size, 2, none⟩) z1 _).low (p := ⟨w.heap.size + 1, 0, none⟩) z2 _).low (p := ⟨w.heap.size + 1, 1, none⟩) z2 _)).mono (Nat.le_of_lt z1)
    · exact ((((((P2.out.low (p := ⟨w.heap.size, 0, none⟩) z1 _).low (p := ⟨w.heap.size, 1, none⟩) z1 _).low (p := ⟨w.heap.size, 2, none⟩) z1 _).low (p := ⟨w.heap.size + 1, 0, none⟩) z2 _).low (p := ⟨w.heap.size + 1, 1, none⟩) z2 _)).mono (Nat.le_of_lt z1)
    · exact ((((((P3.out.low (p := ⟨w.heap.size, 0, none⟩) z1 _).low (p := ⟨w.heap.size, 1, none⟩) z1 _).low (p := ⟨w.heap.size, 2, none⟩) z1 _).low (p := ⟨w.heap.size + 1, 0, none⟩) z2 _).low (p := ⟨w.heap.size + 1, 1, none⟩) z2 _)).mono (Nat.le_of_lt z1)
    · exact (((((((O4.out).ro.low (p := ⟨w.heap.size, 0, none⟩) z1 _).low (p := ⟨w.heap.size, 1, none⟩) z1 _).low (p := ⟨w.heap.size, 2, none⟩) z1 _).low (p := ⟨w.heap.size + 1, 0, none⟩) z2 _).low (p := ⟨w.heap.size + 1, 1, none⟩) z2 _)).mono (Nat.le_of_lt z1)
    · exact ((((((below_grown HB1.out D.out.gr (Nat.le_of_lt z1) (fun k e => by have e1 : W.heap.size = k := Option.some.inj e; have := ZG.out; omega)).setCell (p := ⟨w.heap.size, 0, none⟩) (Nat.le_refl _) _).setCell (p := ⟨w.heap.size, 1, none⟩) (Nat.le_refl _) _).setCell (p := ⟨w.heap.size, 2, none⟩) (Nat.le_refl _) _).setCell (p := ⟨w.heap.size + 1, 0, none⟩) (Nat.le_succ _) _).setCell (p := ⟨w.heap.size + 1, 1, none⟩) (Nat.le_succ _) _)
set_option maxRecDepth 100000 in
set_option maxHeartbeats 4000000 in
theorem spec_DrawFiltrationModel (v : Value) (xs : List (Fin 256)) (w : World) (h : Sl cY w v xs) (hl : xs.length ≤ 4096) :
    Calls Tryz.prog 5 #[v] w fun e w' => ∃ (n k : Int) (u1 u2 u3 u4 : Value) (L1 L2 : List Int) (L3 : List Nd) (L4 : List Int), e = .returned (.tuple #[.agg #[.int .i64 n, u1, u2], u3, .agg #[.int .i64 k, u4]]) ∧ L1.length ≤ 9 ∧ L2.length ≤ 6 ∧ L3.length ≤ 1001 ∧ L4.length ≤ 9 ∧ Sl cI w' u1 L1 ∧ Sl cI w' u2 L2 ∧ Sl cN w' u3 L3 ∧ Sl cI w' u4 L4 ∧ Below w.heap.size w w' := by
  have R0 := Blk.new w 28 #[.int .i64 0, .slice none 0 0, .slice none 0 0]
  have P0 := Blk.new' (w.alloc (.cells #[.int .i64 0, .slice none 0 0, .slice none 0 0] 28)) 26 #[.int .i64 0, .slice none 0 0] (g := w.heap.size + 1) (by simp)
  have hb0 := below_alloc' w (.cells #[.int .i64 0, .slice none 0 0, .slice none 0 0] 28)
  have hb1 := below_alloc' (w.alloc (.cells #[.int .i64 0, .slice none 0 0, .slice none 0 0] 28)) (.cells #[.int .i64 0, .slice none 0 0] 26)
  have R := Lib.hid (R0.below hb1 R0.lt)
  have P := Lib.hid P0
  have HH := Lib.hid ((h.below hb0).below hb1)
  have HBW := Lib.hid (bthen hb0 hb1)
  clear hb0 hb1 R0 P0 h
  go_enter Tryz.func5, Tryz.ntmps5
  go_upto_region 1 with fail
  generalize World.alloc (World.alloc w _) _ = W at *
  go_wp2_with fail
  refine (spec_l14Framed v xs W HH.out hl).mono ?_
  rintro e w1 ⟨n, k, u1, u2, u3, u4, L1, L2, L3, L4, rfl, hL1, hL2, hL3, hL4, P1, P2, P3, P4, hb⟩
  have ZP : Hid (w.heap.size + 1 < W.heap.size) := Lib.hid P.out.lt
  have ZR : Hid (w.heap.size < W.heap.size) := Lib.hid R.out.lt
  replace R := Lib.hid (R.out.below hb R.out.lt)
  replace P := Lib.hid (P.out.below hb P.out.lt)
  have HB1 := Lib.hid (bthen HBW.out hb)
  clear hb HBW HH
  replace P1 := Lib.hid P1
  replace P2 := Lib.hid P2
  replace P3 := Lib.hid P3
  replace P4 := Lib.hid P4
  obtain ⟨A1, c1, rfl⟩ := P1.out.opn
  obtain ⟨A2, c2, rfl⟩ := P2.out.opn
  obtain ⟨A3, c3, rfl⟩ := P3.out.opn
  obtain ⟨A4, c4, rfl⟩ := P4.out.opn
  have kr := R.out.cell
  have fr := R.out.frozen
  have lr := R.out.lt
  have kp := P.out.cell
  have fp := P.out.frozen
  have lp := P.out.lt
  have z1 := ZR.out
  have z2 := ZP.out
  go_wp2
  refine bodyPost_ret (v := .tuple #[.agg #[.int .i64 n, .slice A1 L1.length c1, .slice A2 L2.length c2], .slice A3 L3.length c3, .agg #[.int .i64 k, .slice A4 L4.length c4]]) (by simp [results, Tryz.results5, go_sem, kr, fr, lr, kp, fp, lp]) rfl ⟨n, k, _, _, _, _, L1, L2, L3, L4, rfl, hL1, hL2, hL3, hL4, ?_, ?_, ?_, ?_, ?_⟩
  · exact ((((((P1.out.low (p := ⟨w.heap.size, 0, none⟩) z1 _).low (p := ⟨w.heap.size, 1, none⟩) z1 _).low (p := ⟨w.heap.size, 2, none⟩) z1 _).low (p := ⟨w.heap.size + 1, 0, none⟩) z2 _).low (p := ⟨w.heap.size + 1, 1, none⟩) z2 _)).1
  · exact ((((((P2.out.low (p := ⟨w.heap.size, 0, none⟩) z1 _).low (p := ⟨w.heap.size, 1, none⟩) z1 _).low (p := ⟨w.heap.size, 2, none⟩) z1 _).low (p := ⟨w.heap.size + 1, 0, none⟩) z2 _).low (p := ⟨w.heap.size + 1, 1, none⟩) z2 _)).1
  · exact ((((((P3.out.low (p := ⟨w.heap.size, 0, none⟩) z1 _).low (p := ⟨w.heap.size, 1, none⟩) z1 _).low (p := ⟨w.heap.size, 2, none⟩) z1 _).low (p := ⟨w.heap.size + 1, 0, none⟩) z2 _).low (p := ⟨w.heap.size + 1, 1, none⟩) z2 _)).1
  · exact ((((((P4.out.low (p := ⟨w.heap.size, 0, none⟩) z1 _).low (p := ⟨w.heap.size, 1, none⟩) z1 _).low (p := ⟨w.heap.size, 2, none⟩) z1 _).low (p := ⟨w.heap.size + 1, 0, none⟩) z2 _).low (p := ⟨w.heap.size + 1, 1, none⟩) z2 _)).1
  · exact (((((HB1.out.setCell (p := ⟨w.heap.size, 0, none⟩) (Nat.le_refl _) _).setCell (p := ⟨w.heap.size, 1, none⟩) (Nat.le_refl _) _).setCell (p := ⟨w.heap.size, 2, none⟩) (Nat.le_refl _) _).setCell (p := ⟨w.heap.size + 1, 0, none⟩) (Nat.le_succ _) _).setCell (p := ⟨w.heap.size + 1, 1, none⟩) (Nat.le_succ _) _)
end Go.Proofs.YtboldkahppdmbaaGreatDoor

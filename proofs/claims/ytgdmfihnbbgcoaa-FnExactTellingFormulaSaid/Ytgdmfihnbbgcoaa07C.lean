/- Contracts of chapter 7, of the program: the telling formula. -/
import Derived.Test.Ytgdmfihnbbgcoaa07B
namespace Go.Proofs.Ytgdmfihnbbgcoaa
open Go.RowKit
set_option linter.unusedVariables false
set_option linter.unusedSimpArgs false
theorem i64_xor_nat (a b : Nat) (ha : a < 9223372036854775808) (hb : b < 9223372036854775808) : bits .xor .i64 (a : Int) (b : Int) = ((a ^^^ b : Nat) : Int) := by
  have hx : a ^^^ b < 2 ^ 63 := Nat.xor_lt_two_pow (by omega) (by omega)
  show IntKind.i64.wrap ((BitVec.ofInt 64 (a : Int) ^^^ BitVec.ofInt 64 (b : Int)).toNat : Int) = _
  rw [BitVec.toNat_xor, ofInt_i64 a ha, ofInt_i64 b hb, IntKind.wrap_i64]
  omega
theorem fm_one {α β : Type} (X : List α) (f : α → β) : (X.flatMap fun x => [f x]) = X.map f := by
  induction X with
  | nil => rfl
  | cons a l ih => rw [List.flatMap_cons, ih]; rfl
theorem mn_head {m v : Nat} (h : (List.range 64).find? m.testBit = some v) : ∃ r, mn m = v :: r := by
  unfold mn
  rw [← List.head?_filter] at h
  cases hl : (List.range 64).filter m.testBit with
  | nil => rw [hl] at h; cases h
  | cons a l => rw [hl] at h; injection h with h; subst h; exact ⟨l, rfl⟩
theorem dif_head {us ts : List Nat} {x y v : Nat} (h : dif us ts x y = some v) : ∃ r, mn (tru us x ^^^ tru ts y) = v :: r := by
  refine mn_head ?_
  unfold dif at h
  rw [List.find?_range_eq_some] at h ⊢
  have hb : ∀ i, (tru us x ^^^ tru ts y).testBit i = (decide (i < 6) && ((us.getD i 0).testBit x != (ts.getD i 0).testBit y)) := fun i => by
    rw [Nat.testBit_xor, tru, tru, msk_testBit, msk_testBit]
    by_cases hi : i < 6 <;> simp [hi]
  have hv := List.mem_range.1 h.2.1
  refine ⟨?_, List.mem_range.2 (by omega), fun i hi => ?_⟩
  · rw [hb, decide_eq_true hv, Bool.true_and]; exact h.1
  · have h4 := h.2.2 i hi
    rw [Bool.not_eq_true'] at h4
    rw [hb, h4, Bool.and_false]; rfl
theorem miss_head {ns ks lk : List Nat} {x y j : Nat} (h : miss ns ks lk x y = some j) : ∃ r, mn (andnot (ks.getD y 0) (img lk (ns.getD x 0))) = j :: r := by
  unfold miss at h
  rw [← List.head?_filter] at h
  have e : mn (andnot (ks.getD y 0) (img lk (ns.getD x 0))) = (mn (ks.getD y 0)).filter fun j => !(img lk (ns.getD x 0)).testBit j := by
    unfold mn
    rw [List.filter_filter]
    refine List.filter_congr fun i _ => ?_
    rw [andnot_testBit, Bool.and_comm]
  rw [e]
  cases hl : (mn (ks.getD y 0)).filter (fun j => !(img lk (ns.getD x 0)).testBit j) with
  | nil => rw [hl] at h; cases h
  | cons a l => rw [hl] at h; injection h with h; subst h; exact ⟨l, rfl⟩
theorem FmOK.mono {p : Nat} {ns us ks ts : List Nat} {A0 A1 B0 B1 L : Option Addr} {c0 c1 d0 d1 lc k m : Nat} (h : FmOK p ns us ks ts A0 A1 B0 B1 L c0 c1 d0 d1 lc k) (hm : m ≤ k) : FmOK p ns us ks ts A0 A1 B0 B1 L c0 c1 d0 d1 lc m :=
  fun x y k' w a b c d e => h x y k' w a b c d (Nat.le_trans e hm)
theorem impl_variable (v : Int) (w : World) :
    Calls Try.prog 155 #[.int .i64 v] w fun e w' => ∃ u, e = .returned u ∧ Ow cN 89 w.heap.size w' u [(0, v)] ∧ Below w.heap.size w w' := by
  have ho := Ow.lit (w := w) (K := cN) (e := 89) (B := w.heap.size) [(0, v)] (cs := #[.int .i64 0, .int .i64 v]) (n := 1) rfl rfl (Nat.le_refl _)
  have HO := Lib.hid ho
  have HB := Lib.hid (below_alloc' w (.cells #[.int .i64 0, .int .i64 v] 89))
  clear ho
  go_enter Try.func155, Try.ntmps155
  go_wp2
  go_ret
  exact ⟨_, rfl, HO.out, HB.out⟩
set_option maxRecDepth 100000 in
set_option maxHeartbeats 1000000 in
theorem impl_formula_zero (p : Nat) (ns us ks ts : List Nat) (A0 A1 B0 B1 L : Option Addr) (c0 c1 d0 d1 lc x y : Nat) (w : World) (h : Tl w p ns us ks ts A0 A1 B0 B1 L c0 c1 d0 d1 lc) (h1 : MdN ns us) (h2 : MdN ks ts) (hx : x < ns.length) (hy : y < ks.length) (hrd : rd ns us ks ts x y = some 0) :
    Calls Try.prog 87 #[.pointer (some ⟨p, 0, none⟩), .int .i64 x, .int .i64 y] w fun e w' => ∃ u xs b, e = .returned (.tuple #[u, .bool b]) ∧ Ow cN 89 w.heap.size w' u xs ∧ xs.length ≤ 200 ∧ tab ns us ks ts 0 x y = (if b then some xs else none) ∧ Below w.heap.size w w' := by
  have h8 := h1.r.1
  have hk8 := h2.r.1
  obtain ⟨v, hv⟩ := rd_zero hx hy hrd
  have HR := Lib.hid (impl_rounds p ns us ks ts A0 A1 B0 B1 L c0 c1 d0 d1 lc x y w h h1 h2 hx hy)
  rw [show rdI ns us ks ts x y = 0 by unfold rdI; rw [hrd]; rfl] at HR
  have HTab : Hid (tab ns us ks ts 0 x y = some (litF us v x)) := Lib.hid (by rw [tab, if_pos hrd, atomF, hv]; rfl)
  obtain ⟨r, hr⟩ := dif_head hv
  have HT := Lib.hid h
  have HT1 := Lib.hid (fun W (hW : Below w.heap.size w W) => impl_truths ns.length A0 ns.length c0 _ us x W ((h.below hW).m.u) h1.l h1.u256 (by omega))
  have HT2 := Lib.hid (fun W (hW : Below w.heap.size w W) => impl_truths ks.length B0 ks.length d0 _ ts y W ((h.below hW).n.u) h2.l h2.u256 (by omega))
  have ht1 : tru us x < 64 := msk_lt _ 6
  have ht2 : tru ts y < 64 := msk_lt _ 6
  have hx64 : tru us x ^^^ tru ts y < 64 := Nat.xor_lt_two_pow (n := 6) ht1 ht2
  have hv6 : v < 6 := by unfold dif at hv; rw [List.find?_range_eq_some] at hv; exact List.mem_range.1 hv.2.1
  have HXor := Lib.hid (i64_xor_nat (tru us x) (tru ts y) (by omega) (by omega))
  have HMem := Lib.hid (fun W => impl_membersOf (tru us x ^^^ tru ts y) W (by omega))
  rw [mems_mn, hr] at HMem
  have HHas := Lib.hid (fun W => impl_has (us.getD v 0) x W (by have := h1.u256 v; omega) (by omega))
  have HLit : Hid (litF us v x = if (us.getD v 0).testBit x then [(0, (v : Int))] else [(4, 0), (0, (v : Int)), (1, 0)]) := Lib.hid rfl
  have hl6 := h1.l
  clear h h1 h2 hrd hv hr
  generalize tru us x = t1 at *
  generalize tru ts y = t2 at *
  generalize t1 ^^^ t2 = t3 at *
  go_enter Try.func87, Try.ntmps87
  go_wp2_with fail
  refine HR.out.mono ?_
  rintro e w1 ⟨rfl, hb⟩
  have hT1 := HT.out.below hb
  have HTa := Lib.hid hT1
  have HB1 := Lib.hid hb
  have k0 : w1.cell? ⟨p, 0, none⟩ = some (.int .i64 ns.length) := hT1.blk.cell 0
  have k1 : w1.cell? ⟨p, 1, none⟩ = some (.slice A0 ns.length c0) := hT1.blk.cell 1
  have k2 : w1.cell? ⟨p, 2, none⟩ = some (.slice A1 6 c1) := hT1.blk.cell 2
  have k3 : w1.cell? ⟨p, 3, none⟩ = some (.int .i64 ks.length) := hT1.blk.cell 3
  have k4 : w1.cell? ⟨p, 4, none⟩ = some (.slice B0 ks.length d0) := hT1.blk.cell 4
  have k5 : w1.cell? ⟨p, 5, none⟩ = some (.slice B1 6 d1) := hT1.blk.cell 5
  have lp := hT1.blk.lt
  clear hT1 hb
  go_wp2
  refine wp_region_sched (Below w1.heap.size w1) 12 [0, 1, 2, 3, 4, 6, 7, 8, 9, 10] [0, 1, 2, 3, 4, 6, 7, 8, 9, 10, 5, 11] (by kernel_rfl) (by kernel_rfl) (Below.refl _ _).drew ?_
  repeat
    apply wpSched_q rfl rfl
    case h =>
      intro w' hI K hK
      have k0' := (hI.cell (p := ⟨p, 0, none⟩) lp).trans k0
      have k1' := (hI.cell (p := ⟨p, 1, none⟩) lp).trans k1
      have k2' := (hI.cell (p := ⟨p, 2, none⟩) lp).trans k2
      have k3' := (hI.cell (p := ⟨p, 3, none⟩) lp).trans k3
      have k4' := (hI.cell (p := ⟨p, 4, none⟩) lp).trans k4
      have k5' := (hI.cell (p := ⟨p, 5, none⟩) lp).trans k5
      simp only [quietV, stillV]
      go_simp
      exact hK
    go_simp
  refine wpSched_r rfl rfl ?_ (Below.refl _ _).drew
  intro K hK hI
  go_simp
  refine (HT1.out _ (bthen HB1.out hI)).mono ?_
  rintro e w2 ⟨rfl, hb⟩
  have hb2 := hI.trans (hb.mono hI.size)
  refine hK _ _ hb2 ?_
  clear hK K hb hI
  refine wpSched_r rfl rfl ?_ hb2
  intro K hK hI
  go_simp
  refine (HT2.out _ (bthen HB1.out hI)).mono ?_
  rintro e w3 ⟨rfl, hb⟩
  have hb3 := hI.trans (hb.mono hI.size)
  refine hK _ _ hb3 ?_
  clear hK K hb hI hb2
  refine wpSched_nil ?_
  try simp only [List.drop_succ_cons, List.drop_zero, List.drop_nil]
  have HB3 := Lib.hid (bthen HB1.out hb3)
  have xor1 := HXor.out
  clear hb3 k0 k1 k2 k3 k4 k5
  go_wp2_with fail
  refine (HMem.out _).mono ?_
  rintro e w4 ⟨u, rfl, ho, hb⟩
  obtain ⟨Au, cu, rfl⟩ := ho.opn
  rw [li_length] at ho ⊢
  obtain ⟨ba, oa, e1, hba, hca⟩ := li_at ho.sl (k := 0) (by simp)
  subst e1
  have hca0 : w4.cell? ⟨ba, oa, none⟩ = some (.int .i64 v) := hca
  have HB4 := Lib.hid (bthen HB3.out hb)
  have hT4 := HT.out.below HB4.out
  have k1 : w4.cell? ⟨p, 1, none⟩ = some (.slice A0 ns.length c0) := hT4.blk.cell 1
  have k2 : w4.cell? ⟨p, 2, none⟩ = some (.slice A1 6 c1) := hT4.blk.cell 2
  have lp4 := hT4.blk.lt
  have hus : Sl cI w4 (.slice A1 6 c1) (li us) := hT4.m.u
  obtain ⟨bu, ou, e2, hbu, hcu⟩ := li_at hus (k := v) (by rw [hl6]; exact hv6)
  subst e2
  have eu : us[v]'(by rw [hl6]; exact hv6) = us.getD v 0 := by simp [List.getD_eq_getElem?_getD, hl6, hv6]
  rw [eu] at hcu
  clear ho hb hT4 hus hca eu lp
  simp only [List.length_cons] at *
  have hrl : 0 < r.length + 1 := by omega
  generalize r.length + 1 = rl at *
  generalize us.getD v 0 = uv at *
  obtain ⟨z, hz⟩ : ∃ z, uv.testBit x = z := ⟨_, rfl⟩
  rw [hz] at HHas HLit
  clear hz
  have HVar := Lib.hid (fun W => impl_variable (v : Int) W)
  generalize litF us v x = lf at *
  cases z
  · go_wp2_with fail
    refine (HHas.out _).mono ?_
    rintro e w5 ⟨rfl, rfl⟩
    go_wp2_with fail
    refine (HVar.out _).mono ?_
    rintro e w6 ⟨u6, rfl, ho6, hb6⟩
    have HNeg := Lib.hid (impl_negation u6 _ w6 ho6.sl (by simp))
    have HB6 := Lib.hid (bthen HB4.out hb6)
    clear ho6 hb6 hca0 k1 k2 hcu
    go_wp2_with fail
    refine HNeg.out.mono ?_
    rintro e w7 ⟨u7, rfl, ho7, hb7⟩
    obtain ⟨A7, c7, rfl⟩ := ho7.opn
    have HO7 := Lib.hid (ho7.mono HB6.out.size)
    have HB7 := Lib.hid (bthen HB6.out hb7)
    clear ho7 hb7
    go_wp2
    go_ret2
    exact ⟨_, _, true, rfl, HO7.out, by simp, by rw [HTab.out, HLit.out]; rfl, HB7.out⟩
  · go_wp2_with fail
    refine (HHas.out _).mono ?_
    rintro e w5 ⟨rfl, rfl⟩
    go_wp2_with fail
    refine (HVar.out _).mono ?_
    rintro e w6 ⟨u6, rfl, ho6, hb6⟩
    obtain ⟨A7, c7, rfl⟩ := ho6.opn
    have HO7 := Lib.hid (ho6.mono HB4.out.size)
    have HB7 := Lib.hid (bthen HB4.out hb6)
    clear ho6 hb6 hca0 k1 k2 hcu
    go_wp2
    go_ret2
    exact ⟨_, _, true, rfl, HO7.out, by simp, by rw [HTab.out, HLit.out]; rfl, HB7.out⟩
theorem li_one {w : World} {B : Nat} (s : Nat) (e : TypeId) (hB : B ≤ w.heap.size) : Sl cI (w.alloc (.cells #[.int .i64 (s : Int)] e)) (.slice (some ⟨w.heap.size, 0, none⟩) 1 1) (li [s]) :=
  (Ow.lit (w := w) (K := cI) (e := e) (B := B) (li [s]) (cs := #[.int .i64 (s : Int)]) (n := 1) rfl rfl hB (by show 1 ≤ 1073741824; omega)).sl
set_option maxRecDepth 100000 in
set_option maxHeartbeats 1000000 in
theorem impl_formula_succ (p : Nat) (ns us ks ts : List Nat) (A0 A1 B0 B1 L : Option Addr) (c0 c1 d0 d1 lc κ x y : Nat) (hIH : FmOK p ns us ks ts A0 A1 B0 B1 L c0 c1 d0 d1 lc κ) (w : World) (h : Tl w p ns us ks ts A0 A1 B0 B1 L c0 c1 d0 d1 lc) (h1 : MdN ns us) (h2 : MdN ks ts) (hx : x < ns.length) (hy : y < ks.length) (hrd : rd ns us ks ts x y = some (κ + 1)) :
    Calls Try.prog 87 #[.pointer (some ⟨p, 0, none⟩), .int .i64 x, .int .i64 y] w fun e w' => ∃ u xs b, e = .returned (.tuple #[u, .bool b]) ∧ Ow cN 89 w.heap.size w' u xs ∧ xs.length ≤ 200 ∧ tab ns us ks ts (κ + 1) x y = (if b then some xs else none) ∧ Below w.heap.size w w' := by
  have h8 := h1.r.1
  have hk8 := h2.r.1
  obtain ⟨hκ, -, -⟩ := rd_spec hrd
  have HR := Lib.hid (impl_rounds p ns us ks ts A0 A1 B0 B1 L c0 c1 d0 d1 lc x y w h h1 h2 hx hy)
  rw [show rdI ns us ks ts x y = ((κ + 1 : Nat) : Int) by unfold rdI; rw [hrd]] at HR
  have HTab : Hid (tab ns us ks ts (κ + 1) x y = tstep ns us ks ts (tab ns us ks ts κ) κ x y) := Lib.hid (by rw [tab, if_pos hrd])
  have HT := Lib.hid h
  have HLone := Lib.hid (fun v W (hW : Below w.heap.size w W) (hv : Sl cI W v (li (bnd ns us ks ts κ))) => impl_lonely p ns us ks ts (bnd ns us ks ts κ) A0 A1 B0 B1 L c0 c1 d0 d1 lc x y v W (h.below hW) h1 h2 hx hy hv (bnd_length _ _ _ _ _) (bnd_256 hk8 κ))
  have hmn := h1.n256 x
  have hmk := h2.n256 y
  have hnx : ns.getD x 0 < 2 ^ ns.length := getD_lt h1.r.2 x
  have hky : ks.getD y 0 < 2 ^ ks.length := getD_lt h2.r.2 y
  have HMn := Lib.hid (fun W => impl_membersOf (ns.getD x 0) W (by omega))
  have HMk := Lib.hid (fun W => impl_membersOf (ks.getD y 0) W (by omega))
  rw [mems_mn] at HMn HMk
  have HNx : Hid (∀ i ∈ mn (ns.getD x 0), i < ns.length) := Lib.hid fun i hi => bit_lt hnx (mn_mem.1 hi).2
  have HKy : Hid (∀ i ∈ mn (ks.getD y 0), i < ks.length) := Lib.hid fun i hi => bit_lt hky (mn_mem.1 hi).2
  have HIH := Lib.hid hIH
  have HLn := Lib.hid (mn_len (ns.getD x 0))
  have HLk := Lib.hid (mn_len (ks.getD y 0))
  go_enter Try.func87, Try.ntmps87
  go_wp2_with fail
  refine HR.out.mono ?_
  rintro e w1 ⟨rfl, hb⟩
  have hT1 := HT.out.below hb
  have HB1 := Lib.hid hb
  have k6 : w1.cell? ⟨p, 6, none⟩ = some (.slice L 17 lc) := hT1.blk.cell 6
  have lp := hT1.blk.lt
  have hll := hT1.l
  obtain ⟨bl, ol, Ai, ni, ci, e1, hbl, hcl, hsl⟩ := hll.at_ (k := κ) (by rw [bdL_length]; omega)
  subst e1
  rw [bdL_get] at hsl
  obtain ⟨Ai', ci', e2⟩ := hsl.opn
  rw [li_length, bnd_length] at e2
  obtain ⟨rfl, rfl, rfl⟩ : Ai = Ai' ∧ ni = ns.length ∧ ci = ci' := by injection e2 with a1 a2 a3; exact ⟨a1, a2, a3⟩
  have HSl := Lib.hid hsl
  have HT1 := Lib.hid hT1
  have HSt : Hid (∀ s, lonW ns ks (bnd ns us ks ts κ) x y = some s → tab ns us ks ts (κ + 1) x y = joi 6 2 ([s].flatMap fun a => (mn (ks.getD y 0)).map fun b => tab ns us ks ts κ a b)) := Lib.hid fun s hs => by
    rw [HTab.out, tstep, hs]
    simp
  have HSn : Hid (lonW ns ks (bnd ns us ks ts κ) x y = none → ∃ j, miss ns ks (bnd ns us ks ts κ) x y = some j ∧ tab ns us ks ts (κ + 1) x y = joi 5 3 ((mn (ns.getD x 0)).flatMap fun a => [j].map fun b => tab ns us ks ts κ a b)) := Lib.hid fun hn => by
    obtain ⟨j, hj⟩ := rd_succ h1.r.2 h2.r.2 h8 hk8 hx hy hrd hn
    refine ⟨j, hj, ?_⟩
    rw [HTab.out, tstep, hn]
    dsimp only
    rw [hj]
    exact (congrArg (joi 5 3) (fm_one (mn (ns.getD x 0)) fun i => tab ns us ks ts κ i j)).symm
  have HMs : Hid (∀ j, miss ns ks (bnd ns us ks ts κ) x y = some j → (∃ r, mn (andnot (ks.getD y 0) (img (bnd ns us ks ts κ) (ns.getD x 0))) = j :: r) ∧ j < ks.length ∧ ∀ i ∈ mn (ns.getD x 0), ∃ k', k' ≤ κ ∧ rd ns us ks ts i j = some k') := Lib.hid fun j hj => by
    have h5 := miss_some (by omega) (by omega) h1.r.2 hj
    exact ⟨miss_head hj, bit_lt hky h5.2.1, h5.2.2⟩
  have HLs : Hid (∀ s, lonW ns ks (bnd ns us ks ts κ) x y = some s → s < ns.length ∧ ∀ j ∈ mn (ks.getD y 0), ∃ k', k' ≤ κ ∧ rd ns us ks ts s j = some k') := Lib.hid fun s hs => by
    have h5 := lonW_some (k := κ) (by omega) hs
    exact ⟨bit_lt hnx h5.2.1, h5.2.2⟩
  have HImg := Lib.hid (fun v W (hv : Sl cI W v (li (bnd ns us ks ts κ))) => impl_image v (bnd ns us ks ts κ) (ns.getD x 0) W hv (by rw [bnd_length]; exact h8) (fun a ha => Nat.lt_of_lt_of_le (bnd_lt ns us ks ts κ a ha) (Nat.pow_le_pow_right (by decide) hk8)) (by rw [bnd_length]; exact hnx))
  have hal : andnot (ks.getD y 0) (img (bnd ns us ks ts κ) (ns.getD x 0)) < 256 := Nat.lt_of_lt_of_le (andnot_lt hky) (two_pow_256 hk8)
  have himg : img (bnd ns us ks ts κ) (ns.getD x 0) < 9223372036854775808 := by
    have := imgTo_lt (k := 8) (fun a ha => Nat.lt_of_lt_of_le (bnd_lt ns us ks ts κ a ha) (Nat.pow_le_pow_right (by decide) hk8)) (ns.getD x 0) (bnd ns us ks ts κ).length
    unfold img
    omega
  have HEx : Hid (ns[x]'hx = ns.getD x 0) := Lib.hid (by simp [List.getD_eq_getElem?_getD, hx])
  have HEy : Hid (ks[y]'hy = ks.getD y 0) := Lib.hid (by simp [List.getD_eq_getElem?_getD, hy])
  have HAn := Lib.hid (i64_andNot_nat (ks.getD y 0) (img (bnd ns us ks ts κ) (ns.getD x 0)) (by omega) himg)
  have HMa := Lib.hid (fun W => impl_membersOf (andnot (ks.getD y 0) (img (bnd ns us ks ts κ) (ns.getD x 0))) W (by omega))
  rw [mems_mn] at HMa
  clear e2 hb hll hT1 hsl HT HTab h h1 h2 hIH hnx hky hrd
  generalize img (bnd ns us ks ts κ) (ns.getD x 0) = im at *
  generalize ns.getD x 0 = mx at *
  generalize ks.getD y 0 = my at *
  generalize bnd ns us ks ts κ = lk at *
  go_wp2_with fail
  refine (HLone.out _ w1 HB1.out HSl.out).mono ?_
  rintro e w2 ⟨rfl, hb⟩
  have HB2 := Lib.hid (bthen HB1.out hb)
  have hT2 := HT1.out.below hb
  have HT2 := Lib.hid hT2
  have HSl2 := Lib.hid (HSl.out.below hb)
  clear hb k6 hcl lp
  cases hlo : lonW ns ks lk x y with
  | some s =>
    obtain ⟨hsn, hsr⟩ := HLs.out s hlo
    have HJt := Lib.hid (HSt.out s hlo)
    have k4 : w2.cell? ⟨p, 4, none⟩ = some (.slice B0 ks.length d0) := hT2.blk.cell 4
    have lp := hT2.blk.lt
    have hna := hT2.n.a
    obtain ⟨bk, ok, e3, hbk, hck⟩ := li_at hna hy
    subst e3
    rw [HEy.out] at hck
    have HBa := Lib.hid (below_alloc' w2 (.cells #[.int .i64 (s : Int)] 2))
    have HSx := Lib.hid (li_one (w := w2) s 2 (Nat.le_refl _))
    have HSr := Lib.hid hsr
    rw [show oI (some s) = (s : Int) from rfl]
    clear hT2 hna hlo hsr
    go_wp2_with fail
    refine (HMk.out _).mono ?_
    rintro e w4 ⟨u4, rfl, ho4, hb4⟩
    obtain ⟨A4, c4, rfl⟩ := ho4.opn
    rw [li_length] at ho4 ⊢
    have HB4 := Lib.hid (bthen (bthen HB2.out HBa.out) hb4)
    have HJ := Lib.hid (impl_joined p ns us ks ts A0 A1 _ B1 _ c0 c1 d0 d1 lc κ HIH.out 6 2 [s] (mn my) (fun a ha => by rw [List.mem_singleton] at ha; subst ha; exact hsn) HKy.out (fun a ha => by rw [List.mem_singleton] at ha; subst ha; exact HSr.out) (by simp) HLk.out _ _ w4 ((HT2.out.below HBa.out).below hb4) (HSx.out.below hb4) ho4.sl)
    clear ho4 hb4 k4 hck
    go_wp2_with fail
    refine HJ.out.mono ?_
    rintro e w5 ⟨u5, xs, b, rfl, ho5, hl5, hj5, hb5⟩
    obtain ⟨A5, c5, rfl⟩ := ho5.opn
    have HO5 := Lib.hid (ho5.mono HB4.out.size)
    have HB5 := Lib.hid (bthen HB4.out hb5)
    have HJ5 := Lib.hid (HJt.out.trans hj5)
    clear ho5 hb5 hj5
    go_wp2
    go_ret2
    exact ⟨_, xs, b, rfl, HO5.out, hl5, HJ5.out, HB5.out⟩
  | none =>
    obtain ⟨j, hmj, hJt⟩ := HSn.out hlo
    have HJt := Lib.hid hJt
    obtain ⟨⟨r, hr⟩, hjk, hjr⟩ := HMs.out j hmj
    have HJr := Lib.hid hjr
    rw [hr] at HMa
    have k4 : w2.cell? ⟨p, 4, none⟩ = some (.slice B0 ks.length d0) := hT2.blk.cell 4
    have k1 : w2.cell? ⟨p, 1, none⟩ = some (.slice A0 ns.length c0) := hT2.blk.cell 1
    have lp := hT2.blk.lt
    have hma := hT2.m.a
    obtain ⟨bm, om, e4, hbm, hcm⟩ := li_at hma hx
    subst e4
    rw [HEx.out] at hcm
    rw [show oI none = -1 from rfl]
    clear hT2 hma hlo hmj hJt hr hjr
    go_wp2_with fail
    refine (HImg.out _ w2 HSl2.out).mono ?_
    rintro e w3 ⟨rfl, hb⟩
    have HB3 := Lib.hid (bthen HB2.out hb)
    have hT3 := HT2.out.below hb
    have HT3 := Lib.hid hT3
    have k4 : w3.cell? ⟨p, 4, none⟩ = some (.slice B0 ks.length d0) := hT3.blk.cell 4
    have lp := hT3.blk.lt
    have hna := hT3.n.a
    obtain ⟨bk, ok, e3, hbk, hck⟩ := li_at hna hy
    subst e3
    rw [HEy.out] at hck
    have an1 := HAn.out
    clear hT3 hna hb k1 hcm hbm
    go_wp2_with fail
    refine (HMa.out _).mono ?_
    rintro e w4 ⟨u4, rfl, ho4, hb4⟩
    obtain ⟨A4, c4, rfl⟩ := ho4.opn
    rw [li_length] at ho4 ⊢
    obtain ⟨ba, oa, e5, hba, hca⟩ := li_at ho4.sl (k := 0) (by simp)
    subst e5
    have hca0 : w4.cell? ⟨ba, oa, none⟩ = some (.int .i64 j) := hca
    have HB4 := Lib.hid (bthen HB3.out hb4)
    have hT4 := HT3.out.below hb4
    have HT4 := Lib.hid hT4
    have k1 : w4.cell? ⟨p, 1, none⟩ = some (.slice (some ⟨bm, om, none⟩) ns.length c0) := hT4.blk.cell 1
    have lp := hT4.blk.lt
    have hma := hT4.m.a
    obtain ⟨bm', om', e4, hbm, hcm⟩ := li_at hma hx
    obtain ⟨rfl, rfl⟩ : bm = bm' ∧ om = om' := by injection e4 with e4; injection e4 with a1 a2; exact ⟨a1, a2⟩
    rw [HEx.out] at hcm
    clear ho4 hb4 k4 hck hT4 hma e4 hca
    simp only [List.length_cons] at *
    have hrl : 0 < r.length + 1 := by omega
    generalize r.length + 1 = rl at *
    go_wp2_with fail
    refine (HMn.out _).mono ?_
    rintro e w5 ⟨u5, rfl, ho5, hb5⟩
    obtain ⟨A5, c5, rfl⟩ := ho5.opn
    rw [li_length] at ho5 ⊢
    have HB5 := Lib.hid (bthen HB4.out hb5)
    have HT5 := Lib.hid (HT4.out.below hb5)
    have HBa := Lib.hid (below_alloc' w5 (.cells #[.int .i64 (j : Int)] 2))
    have HSx := Lib.hid (li_one (w := w5) j 2 (Nat.le_refl _))
    have HO5 := Lib.hid ho5.sl
    have HJ := Lib.hid (impl_joined p ns us ks ts _ A1 _ B1 _ c0 c1 d0 d1 lc κ HIH.out 5 3 (mn mx) [j] HNx.out (fun a ha => by rw [List.mem_singleton] at ha; subst ha; exact hjk) (fun i hi a ha => by rw [List.mem_singleton] at ha; subst ha; exact HJr.out i hi) HLn.out (by simp) _ _ (w5.alloc (.cells #[.int .i64 (j : Int)] 2)) (HT5.out.below HBa.out) (HO5.out.below HBa.out) HSx.out)
    have HB6 := Lib.hid (bthen HB5.out HBa.out)
    clear ho5 hb5 k1 hcm hca0
    go_wp2_with fail
    refine HJ.out.mono ?_
    rintro e w6 ⟨u6, xs, b, rfl, ho6, hl6, hj6, hb6⟩
    obtain ⟨A6, c6, rfl⟩ := ho6.opn
    have HO6 := Lib.hid (ho6.mono HB6.out.size)
    have HB7 := Lib.hid (bthen HB6.out hb6)
    have HJ6 := Lib.hid (HJt.out.trans hj6)
    clear ho6 hb6 hj6
    go_wp2
    go_ret2
    exact ⟨_, xs, b, rfl, HO6.out, hl6, HJ6.out, HB7.out⟩
end Go.Proofs.Ytgdmfihnbbgcoaa

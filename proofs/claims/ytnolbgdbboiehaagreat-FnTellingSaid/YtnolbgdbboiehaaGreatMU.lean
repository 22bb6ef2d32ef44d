/- Joined of several texts: M07U, 07F, 07G, 07H, 07I, 07J. -/
import Derived.Test.YtnolbgdbboiehaaGreatTM
import Derived.Test.YtnolbgdbboiehaaGreatN34
import Derived.Test.YtnolbgdbboiehaaGreatSch
import Derived.Test.YtnolbgdbboiehaaGreatM3
namespace Go.Proofs.YtnolbgdbboiehaaGreat
open Go.RowKit
set_option linter.unusedVariables false
set_option linter.unusedSimpArgs false
/- Plain words of chapter 7: the search of a telling formula, by indices. No program in sight. -/
theorem mn_range {m K : Nat} (h : m < 2 ^ K) (hK : K ≤ 64) : mn m = (List.range K).filter m.testBit := by
  unfold mn
  obtain ⟨d, hd⟩ : ∃ d, 64 = K + d := ⟨64 - K, by omega⟩
  rw [hd, List.range_add, List.filter_append]
  have : ((List.range d).map (K + ·)).filter m.testBit = [] := by
    rw [List.filter_eq_nil_iff]
    intro a ha
    obtain ⟨i, -, rfl⟩ := List.mem_map.1 ha
    rw [Nat.testBit_lt_two_pow (Nat.lt_of_lt_of_le h (Nat.pow_le_pow_right (by decide) (by omega)))]
    decide
  rw [this, List.append_nil]
/-- what is picked among the first j -/
def pkd {α : Type} (b : Nat) (f : Nat → α) (j : Nat) : List α := ((List.range j).filter b.testBit).map f
theorem pkd_succ {α : Type} (b : Nat) (f : Nat → α) (j : Nat) : pkd b f (j + 1) = if b.testBit j then pkd b f j ++ [f j] else pkd b f j := by
  unfold pkd
  rw [List.range_succ, List.filter_append]
  split
  · rename_i h; simp [h]
  · rename_i h; simp [h]
theorem pkd_end {α : Type} {b K : Nat} (f : Nat → α) (h : b < 2 ^ K) (hK : K ≤ 64) : pkd b f K = (mn b).map f := by
  unfold pkd; rw [mn_range h hK]
theorem lon_find {ns ks lk : List Nat} {x y : Nat} (h : ns.getD x 0 < 2 ^ ns.length) (hK : ns.length ≤ 64) :
    lonW ns ks lk x y = (List.range ns.length).find? fun s => (ns.getD x 0).testBit s && decide (lk.getD s 0 &&& ks.getD y 0 = 0) := by
  unfold lonW
  rw [mn_range h hK, List.find?_filter]
  congr 1
  funext s
  simp
theorem miss_find {ns ks lk : List Nat} {x y : Nat} (h : ks.getD y 0 < 2 ^ ks.length) (hK : ks.length ≤ 64) :
    miss ns ks lk x y = (List.range ks.length).find? fun j => (ks.getD y 0).testBit j && !(img lk (ns.getD x 0)).testBit j := by
  unfold miss
  rw [mn_range h hK, List.find?_filter]
  congr 1
  funext s
  simp
theorem colm_img {lk : List Nat} {a j : Nat} (ha : a < 2 ^ lk.length) : decide (colm lk j &&& a = 0) = !(img lk a).testBit j := by
  rw [Bool.eq_iff_iff, decide_eq_true_eq, Bool.not_eq_true']
  constructor
  · intro h
    cases hb : (img lk a).testBit j
    · rfl
    · unfold img at hb
      obtain ⟨i, h1, h2, h3⟩ := (imgTo_bit _ _ _ _).1 hb
      have := congrArg (fun n => n.testBit i) h
      simp only [Nat.testBit_and, colm, msk_testBit, decide_eq_true h1, h2, h3, Nat.zero_testBit] at this
      simp at this
  · intro h
    apply Nat.eq_of_testBit_eq
    intro i
    rw [Nat.testBit_and, colm, msk_testBit, Nat.zero_testBit]
    cases hi : a.testBit i
    · simp
    · cases hb : (lk.getD i 0).testBit j
      · simp
      · have h4 : (img lk a).testBit j = true := by unfold img; exact (imgTo_bit _ _ _ _).2 ⟨i, bit_lt ha hi, hi, hb⟩
        rw [h] at h4; cases h4
/-- a modality before the parts joined, by the rows that are read -/
def joiY (md op : Int) (yss : List (List Nd)) : Option (List Nd) :=
  if yss.any (fun y => y.length == 0) then none else if ((md, (0 : Int)) :: joinA op yss).length ≤ 40 then some ((md, 0) :: joinA op yss) else none
theorem joi_yss {md op : Int} {ps : List (Option (List Nd))} (h : ∀ o ∈ ps, ∀ xs, o = some xs → 0 < xs.length) : joi md op ps = joiY md op (ps.map fun o => o.getD []) := by
  unfold joi joiY
  by_cases ha : ps.all Option.isSome = true
  · have e : ps.filterMap id = ps.map fun o => o.getD [] := by
      clear h
      induction ps with
      | nil => rfl
      | cons a l ih =>
        rw [List.all_cons, Bool.and_eq_true] at ha
        cases a with
        | none => cases ha.1
        | some xs => simp [ih ha.2]
    have hf : (ps.map fun o => o.getD []).any (fun y => y.length == 0) = false := by
      rw [List.any_map, List.any_eq_false]
      intro o ho
      have h1 := List.all_eq_true.1 ha o ho
      cases o with
      | none => cases h1
      | some xs =>
        have := h _ ho xs rfl
        simp
        intro e; rw [e] at this; simp at this
    rw [if_pos ha, hf, e]
    rfl
  · rw [if_neg ha, if_pos]
    rw [Bool.not_eq_true, List.all_eq_false] at ha
    obtain ⟨o, ho, h1⟩ := ha
    rw [List.any_map, List.any_eq_true]
    refine ⟨o, ho, ?_⟩
    cases o with
    | none => rfl
    | some xs => exact absurd rfl h1
theorem any_take_succ {α : Type} (p : α → Bool) (l : List α) (n : Nat) (h : n < l.length) : (l.take (n + 1)).any p = ((l.take n).any p || p l[n]) := by
  rw [List.take_succ_eq_append_getElem h, List.any_append]; simp
theorem flat_le40 (yss : List (List Nd)) (h : ∀ xs ∈ yss, xs.length ≤ 40) : yss.flatten.length ≤ 40 * yss.length := by
  induction yss with
  | nil => simp
  | cons a l ih =>
    have h1 := h a (by simp)
    have h2 := ih fun xs hxs => h xs (by simp [hxs])
    simp only [List.length_cons, List.flatten_cons, List.length_append]
    omega
/- Contracts of chapter 7, of the reference: a telling formula. -/
set_option maxRecDepth 100000 in
set_option maxHeartbeats 1000000 in
theorem spec_l07Tell_zero (ns us ks ts : List Nat) (A0 A1 B0 B1 : Option Addr) (c0 c1 d0 d1 x y v : Nat) (vl vt : Value) (w : World) (hm : Mdl w (.slice A0 ns.length c0) (.slice A1 6 c1) ns us) (hm2 : Mdl w (.slice B0 ks.length d0) (.slice B1 6 d1) ks ts) (h1 : MdN ns us) (h2 : MdN ks ts) (hx : x ≤ 60) (hy : y ≤ 60) (hd : dif us ts x y = some v) :
    Calls Tryz.prog 128 #[.agg #[.int .i64 ns.length, .slice A0 ns.length c0, .slice A1 6 c1], .agg #[.int .i64 ks.length, .slice B0 ks.length d0, .slice B1 6 d1], vl, vt, .int .i64 x, .int .i64 y, .int .i64 (0 : Nat)] w
      fun e w' => ∃ u, e = .returned u ∧ Ow cN 89 w.heap.size w' u (litF us v x) ∧ Below w.heap.size w w' := by
  have hb0 := below_alloc' w (.cells #[.int .i64 ns.length, .slice A0 ns.length c0, .slice A1 6 c1] 28)
  have hk0 := Blk.new w 28 #[.int .i64 ns.length, .slice A0 ns.length c0, .slice A1 6 c1]
  have hb1 := below_alloc' (w.alloc (.cells #[.int .i64 ns.length, .slice A0 ns.length c0, .slice A1 6 c1] 28)) (.cells #[.int .i64 ks.length, .slice B0 ks.length d0, .slice B1 6 d1] 28)
  have hk1 : Blk _ (w.heap.size + 1) _ _ := Blk.new' (w.alloc (.cells #[.int .i64 ns.length, .slice A0 ns.length c0, .slice A1 6 c1] 28)) 28 #[.int .i64 ks.length, .slice B0 ks.length d0, .slice B1 6 d1] (by simp)
  have HB := Lib.hid (bthen hb0 hb1)
  have HK0 := Lib.hid (hk0.below hb1 hk0.lt)
  have HK1 := Lib.hid hk1
  have HM := Lib.hid ((hm.below hb0).below hb1)
  have HM2 := Lib.hid ((hm2.below hb0).below hb1)
  have hl6 := h1.l
  have hl6' := h2.l
  have HU := Lib.hid h1.u256
  have HV := Lib.hid h2.u256
  have hdd := hd
  unfold dif at hdd
  rw [List.find?_range_eq_some] at hdd
  have hv6 := List.mem_range.1 hdd.2.1
  have HD1 : Hid (((us.getD v 0).testBit x != (ts.getD v 0).testBit y) = true) := Lib.hid hdd.1
  have HD2 : Hid (∀ j, j < v → (us.getD j 0).testBit x = (ts.getD j 0).testBit y) := Lib.hid fun j hj => by
    have := hdd.2.2 j hj
    simpa using this
  have HLit : Hid (litF us v x = if (us.getD v 0).testBit x then [(0, (v : Int))] else [(4, 0), (0, (v : Int)), (1, 0)]) := Lib.hid rfl
  generalize litF us v x = lf at *
  clear hb0 hb1 hk0 hk1 hm hm2 h1 h2 hd hdd
  go_enter Tryz.func128, Tryz.ntmps128
  go_upto_region 1 with fail
  generalize World.alloc (w.alloc _) _ = W at *
  have k1 : W.cell? ⟨w.heap.size, 2, none⟩ = some (.slice A1 6 c1) := HK0.out.cell 2
  have k2 : W.cell? ⟨w.heap.size + 1, 2, none⟩ = some (.slice B1 6 d1) := HK1.out.cell 2
  have l0 := HK0.out.lt
  have l1 := HK1.out.lt
  go_wp2
  go_loopw [15] (fun i wr => ∃ j : Nat, j ≤ v ∧ i = .int .i64 j ∧ Below W.heap.size W wr) (fun i _ => v + 1 - (intOf i).toNat)
  case atStart => exact ⟨0, Nat.zero_le _, rfl, Below.refl _ _⟩
  case round =>
    obtain ⟨j, hj, rfl, hbw⟩ := hrel
    have HBw := Lib.hid hbw
    have hu := (HM.out.below hbw).u
    have ht := (HM2.out.below hbw).u
    have k1' := (hbw.cell (p := ⟨w.heap.size, 2, none⟩) l0).trans k1
    have k2' := (hbw.cell (p := ⟨w.heap.size + 1, 2, none⟩) l1).trans k2
    have l0' := Nat.lt_of_lt_of_le l0 hbw.size
    have l1' := Nat.lt_of_lt_of_le l1 hbw.size
    clear hbw
    obtain ⟨bu, ou, e1, hbu, hcu⟩ := li_at hu (k := j) (by omega)
    obtain ⟨bt, ot, e2, hbt, hct⟩ := li_at ht (k := j) (by omega)
    subst e1
    subst e2
    have eu : us[j]'(by omega) = us.getD j 0 := by simp [List.getD_eq_getElem?_getD, show j < us.length by omega]
    have et : ts[j]'(by omega) = ts.getD j 0 := by simp [List.getD_eq_getElem?_getD, show j < ts.length by omega]
    rw [eu] at hcu
    rw [et] at hct
    have HQ1 := Lib.hid (fun n => q_l01Bit (m := us.getD j 0) (i := x) (by have := HU.out j; omega) (by omega) wr n)
    have HQ2 := Lib.hid (fun n => q_l01Bit (m := ts.getD j 0) (i := y) (by have := HV.out j; omega) (by omega) wr n)
    have hj6 : (j : Int) < 6 := by omega
    have HVar := Lib.hid (fun X => spec_var (j : Int) X)
    by_cases hjv : j = v
    · subst hjv
      obtain ⟨z1, hz1⟩ : ∃ z, (us.getD j 0).testBit x = z := ⟨_, rfl⟩
      obtain ⟨z2, hz2⟩ : ∃ z, (ts.getD j 0).testBit y = z := ⟨_, rfl⟩
      rw [hz1] at HQ1 HD1 HLit
      rw [hz2] at HQ2 HD1
      clear hz1 hz2
      generalize us.getD j 0 = m1 at *
      generalize ts.getD j 0 = m2 at *
      clear hu ht eu et
      cases z1 <;> cases z2
      · exact absurd HD1.out (by decide)
      · go_wp2
        go_quiet ((go_at_call 98; first | with_reducible exact HQ1.out _ | with_reducible exact HQ2.out _))
        go_wp2_with fail
        refine (HVar.out _).mono ?_
        rintro e w6 ⟨u6, rfl, ho6, hb6⟩
        have HB5 : Hid (Below w.heap.size w (wr.drewN nq)) := Lib.hid (bthen HB.out (below_drewN HBw.out nq))
        have HB6 := Lib.hid (bthen HB5.out hb6)
        have HNeg := Lib.hid (spec_l02Not u6 _ w6 ho6.sl (by simp))
        clear ho6 hb6 hcu hct k1' k2'
        go_wp2_with fail
        refine HNeg.out.mono ?_
        rintro e w7 ⟨u7, rfl, ho7, hb7⟩
        obtain ⟨A7, c7, rfl⟩ := ho7.opn
        have HO7 := Lib.hid (ho7.mono HB6.out.size)
        have HB7 := Lib.hid (bthen HB6.out hb7)
        clear ho7 hb7
        go_wp2
        go_ret
        exact ⟨_, rfl, by rw [HLit.out]; exact HO7.out, HB7.out⟩
      · go_wp2
        go_quiet ((go_at_call 98; first | with_reducible exact HQ1.out _ | with_reducible exact HQ2.out _))
        go_wp2_with fail
        refine (HVar.out _).mono ?_
        rintro e w6 ⟨u6, rfl, ho6, hb6⟩
        have HB5 : Hid (Below w.heap.size w (wr.drewN nq)) := Lib.hid (bthen HB.out (below_drewN HBw.out nq))
        obtain ⟨A7, c7, rfl⟩ := ho6.opn
        have HO7 := Lib.hid (ho6.mono HB5.out.size)
        have HB7 := Lib.hid (bthen HB5.out hb6)
        clear ho6 hb6 hcu hct k1' k2'
        go_wp2
        go_ret
        exact ⟨_, rfl, by rw [HLit.out]; exact HO7.out, HB7.out⟩
      · exact absurd HD1.out (by decide)
    · have hz := HD2.out j (by omega)
      rw [hz] at HQ1
      obtain ⟨z2, hz2⟩ : ∃ z, (ts.getD j 0).testBit y = z := ⟨_, rfl⟩
      rw [hz2] at HQ1 HQ2
      clear hz hz2
      generalize us.getD j 0 = m1 at *
      generalize ts.getD j 0 = m2 at *
      clear hu ht eu et
      cases z2
      all_goals
        go_wp2
        go_quiet ((go_at_call 98; first | with_reducible exact HQ1.out _ | with_reducible exact HQ2.out _))
        go_wp2
        go_roundw
        case rel => exact ⟨j + 1, by omega, by go_num, below_drewN HBw.out _⟩
        case measure => simp [intOf]; omega
/- Contracts of chapter 7, of the reference: a telling formula, from a table. -/
theorem OwL.base {α : Type} {K : Cod α} {t : TypeId} {B : Nat} {w : World} {v : Value} {xss : List (List α)} (h : OwL K t B w v xss) : ∀ k, v.ownBlock = some k → B ≤ k := by
  obtain ⟨hs, h1, -⟩ := h
  exact fun k hk => (h1.block k hk).1
/-- a table of formulas, to be read -/
def TdR (w : World) (vt : Value) (N K : Nat) (T : Nat → Nat → Option (List Nd)) : Prop :=
  ∃ rows : List Hd, Sl cH w vt rows ∧ rows.length = N ∧ ∀ i (hi : i < rows.length), ∃ cs : List Hd, Sl cH w rows[i].val cs ∧ cs.length = K ∧ ∀ j (hj : j < cs.length), Sl cN w cs[j].val ((T i j).getD []) ∧ ∀ k, cs[j].val.ownBlock = some k → k < w.heap.size
theorem TdR.below {w w' : World} {vt : Value} {N K : Nat} {T : Nat → Nat → Option (List Nd)} (h : TdR w vt N K T) (hb : Below w.heap.size w w') : TdR w' vt N K T := by
  obtain ⟨rows, h1, h2, h3⟩ := h
  refine ⟨rows, h1.below hb, h2, fun i hi => ?_⟩
  obtain ⟨cs, h4, h5, h6⟩ := h3 i hi
  exact ⟨cs, h4.below hb, h5, fun j hj => ⟨(h6 j hj).1.below hb, fun k hk => Nat.lt_of_lt_of_le ((h6 j hj).2 k hk) hb.size⟩⟩
theorem TdR.opn {w : World} {vt : Value} {N K : Nat} {T : Nat → Nat → Option (List Nd)} (h : TdR w vt N K T) : ∃ A c, vt = .slice A N c := by
  obtain ⟨rows, h1, h2, -⟩ := h
  obtain ⟨A, c, e⟩ := h1.opn
  exact ⟨A, c, by rw [← h2]; exact e⟩
theorem TdR.at_ {w : World} {A : Option Addr} {n c N K : Nat} {T : Nat → Nat → Option (List Nd)} (h : TdR w (.slice A n c) N K T) {i j : Nat} (hi : i < N) (hj : j < K) :
    ∃ b o b2 o2 cr Ae ce, A = some ⟨b, o, none⟩ ∧ b < w.heap.size ∧ w.cell? ⟨b, o + i, none⟩ = some (.slice (some ⟨b2, o2, none⟩) K cr) ∧ b2 < w.heap.size ∧ w.cell? ⟨b2, o2 + j, none⟩ = some (.slice Ae ((T i j).getD []).length ce) ∧
      Sl cN w (.slice Ae ((T i j).getD []).length ce) ((T i j).getD []) ∧ ∀ k, (Value.slice Ae ((T i j).getD []).length ce).ownBlock = some k → k < w.heap.size := by
  obtain ⟨rows, h1, h2, h3⟩ := h
  have hi' : i < rows.length := by omega
  obtain ⟨cs, h4, h5, h6⟩ := h3 i hi'
  have hj' : j < cs.length := by omega
  obtain ⟨b, o, e1, hb, hc⟩ := h1.cell hi'
  have hc0 := hc 0 rows[i].val rfl
  obtain ⟨Ar, cr, er⟩ := h4.opn
  rw [er] at h4 hc0
  obtain ⟨b2, o2, e2, hb2, hc2⟩ := h4.cell hj'
  have hc20 := hc2 0 cs[j].val rfl
  obtain ⟨h7, h8⟩ := h6 j hj'
  obtain ⟨Ae, ce, ee⟩ := h7.opn
  rw [ee] at h7 h8 hc20
  subst e2
  refine ⟨b, o, b2, o2, cr, Ae, ce, e1, hb, ?_, hb2, ?_, h7, h8⟩
  · rw [← h5]; simpa [cH] using hc0
  · simpa [cH] using hc20
theorem spec_l02AllA (op : Int) (v : Value) (xss : List (List Nd)) (w : World) (h : Sl2 cN w v xss) (hl : xss.length ≤ 262144) (hs : xss.flatten.length ≤ 262144) :
    Calls Tryz.prog 205 #[.int .i64 op, v] w fun e w' => ∃ u, e = .returned u ∧ Ow cN 89 w.heap.size w' u (joinA op xss) ∧ Below w.heap.size w w' := by
  unfold joinA
  split
  · rename_i h0
    rw [List.length_eq_zero_iff] at h0
    subst h0
    exact spec_l02All_nil op v w h
  · exact spec_l02All op v xss w h (by omega) hl hs
theorem i64_and_bit (a b : Nat) (ha : a < 256) (hb : b < 256) : bits .and .i64 (a : Int) (b : Int) = ((a &&& b : Nat) : Int) := i64_and_nat a b (by omega) (by omega)
set_option maxRecDepth 100000 in
set_option maxHeartbeats 2000000 in
theorem spec_l07Tell_succ (ns us ks ts : List Nat) (A0 A1 B0 B1 L At : Option Addr) (c0 c1 d0 d1 lc ct x y κ : Nat) (T : Nat → Nat → Option (List Nd)) (w : World) (hm : Mdl w (.slice A0 ns.length c0) (.slice A1 6 c1) ns us) (hm2 : Mdl w (.slice B0 ks.length d0) (.slice B1 6 d1) ks ts) (h1 : MdN ns us) (h2 : MdN ks ts) (hx : x < ns.length) (hy : y < ks.length) (hrd : rd ns us ks ts x y = some (κ + 1))
    (hL : Sl2 cI w (.slice L 17 lc) (bdL ns us ks ts 16)) (hT : TdR w (.slice At ns.length ct) ns.length ks.length T) (hTT : ∀ i j k', i < ns.length → j < ks.length → rd ns us ks ts i j = some k' → k' ≤ κ → T i j = tab ns us ks ts κ i j) :
    Calls Tryz.prog 128 #[.agg #[.int .i64 ns.length, .slice A0 ns.length c0, .slice A1 6 c1], .agg #[.int .i64 ks.length, .slice B0 ks.length d0, .slice B1 6 d1], .slice L 17 lc, .slice At ns.length ct, .int .i64 x, .int .i64 y, .int .i64 (κ + 1 : Nat)] w
      fun e w' => ∃ u, e = .returned u ∧ Ow cN 89 w.heap.size w' u ((tab ns us ks ts (κ + 1) x y).getD []) ∧ Below w.heap.size w w' := by
  have h8 := h1.r.1
  have hk8 := h2.r.1
  obtain ⟨hκ, -, -⟩ := rd_spec hrd
  have hb0 := below_alloc' w (.cells #[.int .i64 ns.length, .slice A0 ns.length c0, .slice A1 6 c1] 28)
  have hk0 := Blk.new w 28 #[.int .i64 ns.length, .slice A0 ns.length c0, .slice A1 6 c1]
  have hb1 := below_alloc' (w.alloc (.cells #[.int .i64 ns.length, .slice A0 ns.length c0, .slice A1 6 c1] 28)) (.cells #[.int .i64 ks.length, .slice B0 ks.length d0, .slice B1 6 d1] 28)
  have hk1 : Blk _ (w.heap.size + 1) _ _ := Blk.new' (w.alloc (.cells #[.int .i64 ns.length, .slice A0 ns.length c0, .slice A1 6 c1] 28)) 28 #[.int .i64 ks.length, .slice B0 ks.length d0, .slice B1 6 d1] (by simp)
  have HB := Lib.hid (bthen hb0 hb1)
  have HK0 := Lib.hid (hk0.below hb1 hk0.lt)
  have HK1 := Lib.hid hk1
  have HM := Lib.hid ((hm.below hb0).below hb1)
  have HM2 := Lib.hid ((hm2.below hb0).below hb1)
  have HTd := Lib.hid ((hT.below hb0).below hb1)
  have HL := Lib.hid ((hL.below hb0).below hb1)
  have hx9 : ns.getD x 0 < 2 ^ ns.length := getD_lt h1.r.2 x
  have hy9 : ks.getD y 0 < 2 ^ ks.length := getD_lt h2.r.2 y
  have hmx := h1.n256 x
  have hmy := h2.n256 y
  have HEx : Hid (ns[x]'hx = ns.getD x 0) := Lib.hid (by simp [List.getD_eq_getElem?_getD, hx])
  have HEy : Hid (ks[y]'hy = ks.getD y 0) := Lib.hid (by simp [List.getD_eq_getElem?_getD, hy])
  have hlkl := bnd_length ns us ks ts κ
  have HLk := Lib.hid (fun i => bnd_256 (ns := ns) (us := us) (ks := ks) (ts := ts) hk8 κ i)
  have HLon := Lib.hid (lon_find (ns := ns) (ks := ks) (lk := bnd ns us ks ts κ) (x := x) (y := y) hx9 (by omega))
  have HMis : Hid (miss ns ks (bnd ns us ks ts κ) x y = (List.range ks.length).find? fun j => (ks.getD y 0).testBit j && decide (colm (bnd ns us ks ts κ) j &&& ns.getD x 0 = 0)) := Lib.hid (by
    rw [miss_find hy9 (by omega)]
    congr 1
    funext j
    rw [colm_img (by rw [hlkl]; exact hx9)])
  have HS1 : Hid (∀ s, lonW ns ks (bnd ns us ks ts κ) x y = some s → tab ns us ks ts (κ + 1) x y = joi 6 2 (pkd (ks.getD y 0) (fun j => T s j) ks.length) ∧ ∀ o ∈ pkd (ks.getD y 0) (fun j => T s j) ks.length, ∀ xs, o = some xs → 0 < xs.length ∧ xs.length ≤ 40) := Lib.hid fun s hs => by
    have h5 := (lonW_some (k := κ) (by omega) hs).2.2
    rw [pkd_end _ hy9 (by omega)]
    refine ⟨?_, fun o ho xs hx => ?_⟩
    · rw [tab, if_pos hrd, tstep, hs]
      exact congrArg (joi 6 2) (List.map_congr_left fun j hj => by
        obtain ⟨k', hk', hr'⟩ := h5 j hj
        exact (hTT s j k' (bit_lt hx9 (lonW_some (k := κ) (by omega) hs).2.1) (bit_lt hy9 (mn_mem.1 hj).2) hr' hk').symm)
    · obtain ⟨j, hj, rfl⟩ := List.mem_map.1 ho
      obtain ⟨k', hk', hr'⟩ := h5 j hj
      rw [hTT s j k' (bit_lt hx9 (lonW_some (k := κ) (by omega) hs).2.1) (bit_lt hy9 (mn_mem.1 hj).2) hr' hk'] at hx
      exact tab_len κ hx
  have HS2 : Hid (lonW ns ks (bnd ns us ks ts κ) x y = none → ∃ j, miss ns ks (bnd ns us ks ts κ) x y = some j) := Lib.hid fun hn => rd_succ h1.r.2 h2.r.2 h8 hk8 hx hy hrd hn
  have HS3 : Hid (∀ j, lonW ns ks (bnd ns us ks ts κ) x y = none → miss ns ks (bnd ns us ks ts κ) x y = some j → tab ns us ks ts (κ + 1) x y = joi 5 3 (pkd (ns.getD x 0) (fun i => T i j) ns.length) ∧ ∀ o ∈ pkd (ns.getD x 0) (fun i => T i j) ns.length, ∀ xs, o = some xs → 0 < xs.length ∧ xs.length ≤ 40) := Lib.hid fun j hn hj => by
    have h5 := (miss_some (k := κ) (by omega) (by omega) h1.r.2 hj).2.2
    rw [pkd_end _ hx9 (by omega)]
    refine ⟨?_, fun o ho xs hx => ?_⟩
    · rw [tab, if_pos hrd, tstep, hn]
      dsimp only
      rw [hj]
      exact congrArg (joi 5 3) (List.map_congr_left fun i hi => by
        obtain ⟨k', hk', hr'⟩ := h5 i hi
        exact (hTT i j k' (bit_lt hx9 (mn_mem.1 hi).2) (bit_lt hy9 (miss_some (k := κ) (by omega) (by omega) h1.r.2 hj).2.1) hr' hk').symm)
    · obtain ⟨i, hi, rfl⟩ := List.mem_map.1 ho
      obtain ⟨k', hk', hr'⟩ := h5 i hi
      rw [hTT i j k' (bit_lt hx9 (mn_mem.1 hi).2) (bit_lt hy9 (miss_some (k := κ) (by omega) (by omega) h1.r.2 hj).2.1) hr' hk'] at hx
      exact tab_len κ hx
  have hbb := HL.out
  rw [show (bdL ns us ks ts 16) = bdL ns us ks ts 16 from rfl] at hbb
  clear hb0 hb1 hk0 hk1 hm hm2 hT hL hrd hTT h1 h2
  generalize tab ns us ks ts (κ + 1) x y = RES at *
  generalize hlk : bnd ns us ks ts κ = lk at *
  have HLkE := Lib.hid hlk
  clear hlk hbb
  generalize ns.getD x 0 = mx at *
  generalize ks.getD y 0 = my at *
  obtain ⟨kk, hkk⟩ : ∃ kk, κ + 1 = kk := ⟨_, rfl⟩
  rw [hkk]
  have hkz : (((kk : Nat) : Int) == 0) = false := beq_eq_false_iff_ne.2 (by omega)
  have hsub : ((kk : Nat) : Int) - 1 = (κ : Int) := by omega
  have hk17 : kk < 17 := by omega
  go_enter Tryz.func128, Tryz.ntmps128
  go_upto_region 1 with fail
  generalize World.alloc (w.alloc _) _ = W at *
  have k0 : W.cell? ⟨w.heap.size, 0, none⟩ = some (.int .i64 ns.length) := HK0.out.cell 0
  have k1 : W.cell? ⟨w.heap.size, 1, none⟩ = some (.slice A0 ns.length c0) := HK0.out.cell 1
  have j0 : W.cell? ⟨w.heap.size + 1, 0, none⟩ = some (.int .i64 ks.length) := HK1.out.cell 0
  have j1 : W.cell? ⟨w.heap.size + 1, 1, none⟩ = some (.slice B0 ks.length d0) := HK1.out.cell 1
  have l0 := HK0.out.lt
  have l1 := HK1.out.lt
  have hma := HM.out.a
  have hna := HM2.out.a
  obtain ⟨bm, om, e1, hbm, hcm⟩ := li_at hma hx
  obtain ⟨bn, on, e2, hbn, hcn⟩ := li_at hna hy
  subst e1
  subst e2
  rw [HEx.out] at hcm
  rw [HEy.out] at hcn
  clear hma hna
  have hll := HL.out
  obtain ⟨bl, ol, Ai, ni, ci, e3, hbl, hcl, hsl⟩ := hll.at_ (k := κ) (by rw [bdL_length]; omega)
  subst e3
  rw [bdL_get, HLkE.out] at hsl
  obtain ⟨Ai', ci', e4⟩ := hsl.opn
  rw [li_length, hlkl] at e4
  obtain ⟨rfl, rfl, rfl⟩ : Ai = Ai' ∧ ni = ns.length ∧ ci = ci' := by injection e4 with a1 a2 a3; exact ⟨a1, a2, a3⟩
  have HSl := Lib.hid hsl
  clear hll hsl e4
  go_wp2
  go_quiet (fail)
  have HBq : Hid (Below W.heap.size W (W.drewN nq)) := Lib.hid (below_drewN (Below.refl _ _) nq)
  have hOL : OwL cN 38 W.heap.size ((W.drewN nq).alloc (.cells #[] 38)) (.slice (some ⟨W.heap.size, 0, none⟩) 0 0) ([] : List (List Nd)) := ⟨[], Ow.lit (w := W.drewN nq) (K := cH) [] rfl rfl (Nat.le_refl _), rfl, fun i a => (by simp at a)⟩
  have HOL := Lib.hid hOL
  have HBa : Hid (Below W.heap.size W ((W.drewN nq).alloc (.cells #[] 38))) := Lib.hid (bthen HBq.out (below_alloc' _ _))
  clear hOL
  go_wp2
  go_loopw [22, 24, 25, 26] (fun q f i _ wr => ∃ j : Nat, j ≤ ns.length ∧ i = .int .i64 j ∧ Below W.heap.size W wr ∧ ((f = .bool false ∧ OwL cN 38 W.heap.size wr q [] ∧ ∀ s, s < j → (mx.testBit s && decide (lk.getD s 0 &&& my = 0)) = false) ∨ (f = .bool true ∧ ∃ s, lonW ns ks lk x y = some s ∧ OwL cN 38 W.heap.size wr q ((pkd my (fun j => T s j) ks.length).map fun o => o.getD [])))) (fun _ _ i _ _ => ns.length - (intOf i).toNat)
  case atStart => exact ⟨0, Nat.zero_le _, rfl, HBa.out, .inl ⟨rfl, HOL.out, fun s hs => by omega⟩⟩
  case round =>
    obtain ⟨j, hj, rfl, hbw, ⟨rfl, ho, hh⟩ | ⟨rfl, s, hs, ho⟩⟩ := hrel
    · have HBw := Lib.hid hbw
      have HO := Lib.hid ho
      have HH := Lib.hid hh
      have k0' := (hbw.cell (p := ⟨w.heap.size, 0, none⟩) l0).trans k0
      have j0' := (hbw.cell (p := ⟨w.heap.size + 1, 0, none⟩) l1).trans j0
      have l0' := Nat.lt_of_lt_of_le l0 hbw.size
      have l1' := Nat.lt_of_lt_of_le l1 hbw.size
      by_cases hlt : j < ns.length
      · have hcl' := (hbw.cell (p := ⟨bl, ol + κ, none⟩) hbl).trans hcl
        have hbl' := Nat.lt_of_lt_of_le hbl hbw.size
        have hslw := HSl.out.below hbw
        obtain ⟨b5, o5, e5, hb5, hc5⟩ := li_at hslw (k := j) (by rw [hlkl]; exact hlt)
        subst e5
        have eg : lk[j]'(by rw [hlkl]; exact hlt) = lk.getD j 0 := by simp [List.getD_eq_getElem?_getD, show j < lk.length by rw [hlkl]; exact hlt]
        rw [eg] at hc5
        have hq := HLk.out j
        have HBit := Lib.hid (spec_l01Bit mx j wr (by omega) (by omega))
        have HNext : Hid ((mx.testBit j && decide (lk.getD j 0 &&& my = 0)) = false → ∀ s, s < j + 1 → (mx.testBit s && decide (lk.getD s 0 &&& my = 0)) = false) := Lib.hid fun h0 s hs => by
          by_cases e : s = j
          · rw [e]; exact h0
          · exact HH.out s (by omega)
        have HFound : Hid ((mx.testBit j && decide (lk.getD j 0 &&& my = 0)) = true → lonW ns ks lk x y = some j) := Lib.hid fun h0 => by
          rw [HLon.out, List.find?_range_eq_some]
          exact ⟨h0, List.mem_range.2 hlt, fun s hs => by rw [HH.out s hs]; rfl⟩
        have and1 := i64_and_bit (lk.getD j 0) my hq hmy
        obtain ⟨z, hz⟩ : ∃ z, mx.testBit j = z := ⟨_, rfl⟩
        rw [hz] at HBit HNext HFound
        generalize lk.getD j 0 = a at *
        clear hbw ho hh hz hslw eg
        cases z
        · have HN := Lib.hid (HNext.out rfl)
          go_wp2_with fail
          refine HBit.out.mono ?_
          rintro e w2 ⟨rfl, rfl⟩
          go_wp2
          go_roundw
          case rel => exact ⟨j + 1, by omega, by go_num, HBw.out, .inl ⟨rfl, HO.out, HN.out⟩⟩
          case measure => simp [intOf]; omega
        · by_cases h0 : a &&& my = 0
          · have HF := Lib.hid (HFound.out (by rw [h0]; rfl))
            rw [h0] at and1
            have h00 : (((0 : Nat) : Int) != 0) = false := rfl
            go_wp2_with fail
            refine HBit.out.mono ?_
            rintro e w2 ⟨rfl, rfl⟩

            go_wp2
            go_loopw [22, 26] (fun q t wr2 => ∃ n : Nat, n ≤ ks.length ∧ t = .int .i64 n ∧ Below W.heap.size W wr2 ∧ OwL cN 38 W.heap.size wr2 q ((pkd my (fun i => T j i) n).map fun o => o.getD [])) (fun _ t _ => ks.length - (intOf t).toNat)
            case atStart => exact ⟨0, Nat.zero_le _, rfl, HBw.out, HO.out⟩
            case round =>
              obtain ⟨n, hn, rfl, hbw, ho⟩ := hrel
              have HBv := Lib.hid hbw
              have HOv := Lib.hid ho
              have j0v := (hbw.cell (p := ⟨w.heap.size + 1, 0, none⟩) l1).trans j0
              have l1v := Nat.lt_of_lt_of_le l1 hbw.size
              by_cases hltn : n < ks.length
              · have hTd := HTd.out
                obtain ⟨b6, o6, b7, o7, cr, Ae, ce, e6, hb6, hc6, hb7, hc7, hse, hke⟩ := hTd.at_ hlt hltn
                subst e6
                have hc6' := (hbw.cell (p := ⟨b6, o6 + j, none⟩) hb6).trans hc6
                have hc7' := (hbw.cell (p := ⟨b7, o7 + n, none⟩) hb7).trans hc7
                have hb6' := Nat.lt_of_lt_of_le hb6 hbw.size
                have hb7' := Nat.lt_of_lt_of_le hb7 hbw.size
                have hsz := hbw.size
                have hse' := hse.below hbw
                have HLo := Lib.hid (fun k hk => hke k hk)
                have HSe := Lib.hid hse'
                have HBit2 := Lib.hid (spec_l01Bit my n wr (by omega) (by omega))
                have HPk := Lib.hid (pkd_succ my (fun i => T j i) n)
                have HPl : Hid ((pkd my (fun i => T j i) n).length ≤ n) := Lib.hid (by unfold pkd; rw [List.length_map]; exact Nat.le_trans (List.length_filter_le _ _) (by simp))
                obtain ⟨z2, hz2⟩ : ∃ z, my.testBit n = z := ⟨_, rfl⟩
                rw [hz2] at HBit2 HPk
                clear hbw ho hTd hc6 hc7 hse hse' hke hz2
                have HP0 : Hid (z2 = false → (pkd my (fun i => T j i) (n + 1)).map (fun o => o.getD []) = (pkd my (fun i => T j i) n).map fun o => o.getD []) := Lib.hid fun h0 => by rw [HPk.out, h0]; rfl
                have HP1 : Hid (z2 = true → (pkd my (fun i => T j i) (n + 1)).map (fun o => o.getD []) = ((pkd my (fun i => T j i) n).map fun o => o.getD []) ++ [(T j n).getD []]) := Lib.hid fun h0 => by rw [HPk.out, h0]; simp
                have HPm : Hid (((pkd my (fun i => T j i) n).map fun o => o.getD []).length ≤ n) := Lib.hid (by rw [List.length_map]; exact HPl.out)
                generalize (T j n).getD [] = row at *
                generalize (pkd my (fun i => T j i) n).map (fun o => o.getD []) = pts at *
                cases z2
                · have HPe := Lib.hid (HP0.out rfl)
                  go_wp2_with fail
                  refine HBit2.out.mono ?_
                  rintro e w2 ⟨rfl, rfl⟩
                  go_wp2
                  go_roundw
                  case rel => exact ⟨n + 1, by omega, by go_num, HBv.out, by rw [HPe.out]; exact HOv.out⟩
                  case measure => simp [intOf]; omega
                · have HPe := Lib.hid (HP1.out rfl)
                  go_wp2_with fail
                  refine HBit2.out.mono ?_
                  rintro e w2 ⟨rfl, rfl⟩
                  obtain ⟨hs7, h71, h72, h73⟩ := HOv.out.push HSe.out (fun k hk => ⟨Nat.lt_of_lt_of_le (HLo.out k hk) hsz, fun e => by have a1 := HOv.out.base k e; have a2 := HLo.out k hk; omega⟩)
                  have H71 := Lib.hid h71
                  have H73 := Lib.hid h73
                  have hpm := HPm.out
                  clear h71 h73
                  go_wp2_with (at_builtin; refine stopHere ?_)
                  refine goHere ?_
                  refine ap_one (K := cH) _ ty_nodes7 rfl _ _ rfl (xs := hs7) rfl H71.out ⟨Ae, row.length, ce⟩ rfl rfl (by omega) hsz ?_
                  intro v1 w6 ho1 hg1 hb1 hat1
                  have HO6 := Lib.hid (H73.out w6 v1 _ (World.grownBy_alloc _ _ none) (by simp) ho1 hg1 hat1)
                  have HB6 : Hid (Below W.heap.size W w6) := Lib.hid (HBv.out.trans hb1)
                  clear ho1 hg1 hb1 hat1 H71 H73
                  go_wp2
                  go_roundw
                  case rel => exact ⟨n + 1, by omega, by go_num, HB6.out, by rw [HPe.out]; exact HO6.out⟩
                  case measure => simp [intOf]; omega
              · obtain rfl : n = ks.length := by omega
                clear hbw ho
                go_wp2
                go_roundw
                case rel => exact ⟨j + 1, by omega, by go_num, HBv.out, .inr ⟨rfl, j, HF.out, HOv.out⟩⟩
                case measure => simp [intOf]; omega
          · have HN := Lib.hid (HNext.out (by rw [decide_eq_false h0]; rfl))
            have h00 : (((a &&& my : Nat) : Int) != 0) = true := by simp; omega
            generalize a &&& my = r at *
            go_wp2_with fail
            refine HBit.out.mono ?_
            rintro e w2 ⟨rfl, rfl⟩
            go_wp2
            go_roundw
            case rel => exact ⟨j + 1, by omega, by go_num, HBw.out, .inl ⟨rfl, HO.out, HN.out⟩⟩
            case measure => simp [intOf]; omega
      · obtain rfl : j = ns.length := by omega
        have HNone : Hid (lonW ns ks lk x y = none) := Lib.hid (by
          rw [HLon.out, List.find?_eq_none]
          intro s hs
          rw [HH.out s (List.mem_range.1 hs)]; decide)
        have HMt := Lib.hid (HS2.out HNone.out)
        clear hbw ho hh
        generalize wr = w4 at *
        go_wp2
        go_loopw [20, 21, 22, 24, 27, 28] (fun kd jn q f i _ wr2 => ∃ j : Nat, j ≤ ks.length ∧ i = .int .i64 j ∧ Below W.heap.size W wr2 ∧ ((f = .bool false ∧ kd = .int .i64 6 ∧ jn = .int .i64 2 ∧ OwL cN 38 W.heap.size wr2 q [] ∧ ∀ s, s < j → (my.testBit s && decide (colm lk s &&& mx = 0)) = false) ∨ (f = .bool true ∧ kd = .int .i64 5 ∧ jn = .int .i64 3 ∧ ∃ s, miss ns ks lk x y = some s ∧ OwL cN 38 W.heap.size wr2 q ((pkd mx (fun i => T i s) ns.length).map fun o => o.getD [])))) (fun _ _ _ _ i _ _ => ks.length - (intOf i).toNat)
        case atStart => exact ⟨0, Nat.zero_le _, rfl, HBw.out, .inl ⟨rfl, rfl, rfl, HO.out, fun s hs => by omega⟩⟩
        case round =>
          obtain ⟨j, hj, rfl, hbw, ⟨rfl, rfl, rfl, ho, hh⟩ | ⟨rfl, rfl, rfl, s, hs, ho⟩⟩ := hrel
          · have HBw := Lib.hid hbw
            have HO := Lib.hid ho
            have HH := Lib.hid hh
            have k0' := (hbw.cell (p := ⟨w.heap.size, 0, none⟩) l0).trans k0
            have j0' := (hbw.cell (p := ⟨w.heap.size + 1, 0, none⟩) l1).trans j0
            have l0' := Nat.lt_of_lt_of_le l0 hbw.size
            have l1' := Nat.lt_of_lt_of_le l1 hbw.size
            by_cases hlt : j < ks.length
            · have hcl' := (hbw.cell (p := ⟨bl, ol + κ, none⟩) hbl).trans hcl
              have hbl' := Nat.lt_of_lt_of_le hbl hbw.size
              have hslw := HSl.out.below hbw
              have HBit := Lib.hid (spec_l01Bit my j wr (by omega) (by omega))
              have HCol := Lib.hid (spec_l07Column lk j _ wr hslw (by rw [hlkl]; exact h8) HLk.out (by omega))
              have hq : colm lk j < 256 := msk_bound _ (by rw [hlkl]; exact h8) (by omega)
              have HNext : Hid ((my.testBit j && decide (colm lk j &&& mx = 0)) = false → ∀ s, s < j + 1 → (my.testBit s && decide (colm lk s &&& mx = 0)) = false) := Lib.hid fun h0 s hs => by
                by_cases e : s = j
                · rw [e]; exact h0
                · exact HH.out s (by omega)
              have HFound : Hid ((my.testBit j && decide (colm lk j &&& mx = 0)) = true → miss ns ks lk x y = some j) := Lib.hid fun h0 => by
                rw [HMis.out, List.find?_range_eq_some]
                exact ⟨h0, List.mem_range.2 hlt, fun s hs => by rw [HH.out s hs]; rfl⟩
              have and1 := i64_and_bit (colm lk j) mx hq hmx
              obtain ⟨z, hz⟩ : ∃ z, my.testBit j = z := ⟨_, rfl⟩
              rw [hz] at HBit HNext HFound
              generalize colm lk j = a at *
              clear hbw ho hh hz hslw
              cases z
              · have HN := Lib.hid (HNext.out rfl)
                go_wp2_with fail
                refine HBit.out.mono ?_
                rintro e w2 ⟨rfl, rfl⟩
                go_wp2
                go_roundw
                case rel => exact ⟨j + 1, by omega, by go_num, HBw.out, .inl ⟨rfl, rfl, rfl, HO.out, HN.out⟩⟩
                case measure => simp [intOf]; omega
              · by_cases h0 : a &&& mx = 0
                · have HF := Lib.hid (HFound.out (by rw [h0]; rfl))
                  rw [h0] at and1
                  have h00 : (((0 : Nat) : Int) != 0) = false := rfl
                  go_wp2_with fail
                  refine HBit.out.mono ?_
                  rintro e w2 ⟨rfl, rfl⟩
                  go_wp2_with fail
                  refine HCol.out.mono ?_
                  rintro e w2 ⟨rfl, rfl⟩
                  generalize wr = w5 at *
                  go_wp2
                  go_loopw [22, 28] (fun q t wr2 => ∃ n : Nat, n ≤ ns.length ∧ t = .int .i64 n ∧ Below W.heap.size W wr2 ∧ OwL cN 38 W.heap.size wr2 q ((pkd mx (fun i => T i j) n).map fun o => o.getD [])) (fun _ t _ => ns.length - (intOf t).toNat)
                  case atStart => exact ⟨0, Nat.zero_le _, rfl, HBw.out, HO.out⟩
                  case round =>
                    obtain ⟨n, hn, rfl, hbw, ho⟩ := hrel
                    have HBv := Lib.hid hbw
                    have HOv := Lib.hid ho
                    have k0v := (hbw.cell (p := ⟨w.heap.size, 0, none⟩) l0).trans k0
                    have l0v := Nat.lt_of_lt_of_le l0 hbw.size
                    by_cases hltn : n < ns.length
                    · have hTd := HTd.out
                      obtain ⟨b6, o6, b7, o7, cr, Ae, ce, e6, hb6, hc6, hb7, hc7, hse, hke⟩ := hTd.at_ hltn hlt
                      subst e6
                      have hc6' := (hbw.cell (p := ⟨b6, o6 + n, none⟩) hb6).trans hc6
                      have hc7' := (hbw.cell (p := ⟨b7, o7 + j, none⟩) hb7).trans hc7
                      have hb6' := Nat.lt_of_lt_of_le hb6 hbw.size
                      have hb7' := Nat.lt_of_lt_of_le hb7 hbw.size
                      have hsz := hbw.size
                      have hse' := hse.below hbw
                      have HLo := Lib.hid (fun k hk => hke k hk)
                      have HSe := Lib.hid hse'
                      have HBit2 := Lib.hid (spec_l01Bit mx n wr (by omega) (by omega))
                      have HPk := Lib.hid (pkd_succ mx (fun i => T i j) n)
                      have HPl : Hid ((pkd mx (fun i => T i j) n).length ≤ n) := Lib.hid (by unfold pkd; rw [List.length_map]; exact Nat.le_trans (List.length_filter_le _ _) (by simp))
                      obtain ⟨z2, hz2⟩ : ∃ z, mx.testBit n = z := ⟨_, rfl⟩
                      rw [hz2] at HBit2 HPk
                      clear hbw ho hTd hc6 hc7 hse hse' hke hz2
                      have HP0 : Hid (z2 = false → (pkd mx (fun i => T i j) (n + 1)).map (fun o => o.getD []) = (pkd mx (fun i => T i j) n).map fun o => o.getD []) := Lib.hid fun h0 => by rw [HPk.out, h0]; rfl
                      have HP1 : Hid (z2 = true → (pkd mx (fun i => T i j) (n + 1)).map (fun o => o.getD []) = ((pkd mx (fun i => T i j) n).map fun o => o.getD []) ++ [(T n j).getD []]) := Lib.hid fun h0 => by rw [HPk.out, h0]; simp
                      have HPm : Hid (((pkd mx (fun i => T i j) n).map fun o => o.getD []).length ≤ n) := Lib.hid (by rw [List.length_map]; exact HPl.out)
                      generalize (T n j).getD [] = row at *
                      generalize (pkd mx (fun i => T i j) n).map (fun o => o.getD []) = pts at *
                      cases z2
                      · have HPe := Lib.hid (HP0.out rfl)
                        go_wp2_with fail
                        refine HBit2.out.mono ?_
                        rintro e w2 ⟨rfl, rfl⟩
                        go_wp2
                        go_roundw
                        case rel => exact ⟨n + 1, by omega, by go_num, HBv.out, by rw [HPe.out]; exact HOv.out⟩
                        case measure => simp [intOf]; omega
                      · have HPe := Lib.hid (HP1.out rfl)
                        go_wp2_with fail
                        refine HBit2.out.mono ?_
                        rintro e w2 ⟨rfl, rfl⟩
                        obtain ⟨hs7, h71, h72, h73⟩ := HOv.out.push HSe.out (fun k hk => ⟨Nat.lt_of_lt_of_le (HLo.out k hk) hsz, fun e => by have a1 := HOv.out.base k e; have a2 := HLo.out k hk; omega⟩)
                        have H71 := Lib.hid h71
                        have H73 := Lib.hid h73
                        have hpm := HPm.out
                        clear h71 h73
                        go_wp2_with (at_builtin; refine stopHere ?_)
                        refine goHere ?_
                        refine ap_one (K := cH) _ ty_nodes7 rfl _ _ rfl (xs := hs7) rfl H71.out ⟨Ae, row.length, ce⟩ rfl rfl (by omega) hsz ?_
                        intro v1 w6 ho1 hg1 hb1 hat1
                        have HO6 := Lib.hid (H73.out w6 v1 _ (World.grownBy_alloc _ _ none) (by simp) ho1 hg1 hat1)
                        have HB6 : Hid (Below W.heap.size W w6) := Lib.hid (HBv.out.trans hb1)
                        clear ho1 hg1 hb1 hat1 H71 H73
                        go_wp2
                        go_roundw
                        case rel => exact ⟨n + 1, by omega, by go_num, HB6.out, by rw [HPe.out]; exact HO6.out⟩
                        case measure => simp [intOf]; omega
                    · obtain rfl : n = ns.length := by omega
                      clear hbw ho
                      go_wp2
                      go_roundw
                      case rel => exact ⟨j + 1, by omega, by go_num, HBv.out, .inr ⟨rfl, rfl, rfl, j, HF.out, HOv.out⟩⟩
                      case measure => simp [intOf]; omega
                · have HN := Lib.hid (HNext.out (by rw [decide_eq_false h0]; rfl))
                  have h00 : (((a &&& mx : Nat) : Int) != 0) = true := by simp; omega
                  generalize a &&& mx = r at *
                  go_wp2_with fail
                  refine HBit.out.mono ?_
                  rintro e w2 ⟨rfl, rfl⟩
                  go_wp2_with fail
                  refine HCol.out.mono ?_
                  rintro e w2 ⟨rfl, rfl⟩
                  go_wp2
                  go_roundw
                  case rel => exact ⟨j + 1, by omega, by go_num, HBw.out, .inl ⟨rfl, rfl, rfl, HO.out, HN.out⟩⟩
                  case measure => simp [intOf]; omega
            · obtain rfl : j = ks.length := by omega
              obtain ⟨s, hs⟩ := HMt.out
              rw [HMis.out] at hs
              have h7 := List.find?_some hs
              have h8 := List.mem_range.1 (List.mem_of_find?_eq_some hs)
              rw [HH.out s h8] at h7
              cases h7
          · have HBe := Lib.hid hbw
            obtain ⟨HRx, HEx⟩ : (RES = joi 5 3 (pkd mx (fun i => T i s) ns.length)) ∧ ∀ o ∈ pkd mx (fun i => T i s) ns.length, ∀ xs, o = some xs → 0 < xs.length ∧ xs.length ≤ 40 := HS3.out s HNone.out hs
            have HPl8 : (pkd mx (fun i => T i s) ns.length).length ≤ ns.length := by unfold pkd; rw [List.length_map]; exact Nat.le_trans (List.length_filter_le _ _) (by simp)
            rw [joi_yss fun o ho xs hx => (HEx o ho xs hx).1, joiY] at HRx
            have HFx : ((pkd mx (fun i => T i s) ns.length).map fun o => o.getD []).flatten.length ≤ 40 * ((pkd mx (fun i => T i s) ns.length).map fun o => o.getD []).length := flat_le40 _ fun xs hx => by
              obtain ⟨o, ho, rfl⟩ := List.mem_map.1 hx
              cases o with
              | none => simp
              | some q => exact (HEx _ ho q rfl).2
            have HPm : ((pkd mx (fun i => T i s) ns.length).map fun o => o.getD []).length ≤ 8 := by rw [List.length_map]; omega
            generalize ((pkd mx (fun i => T i s) ns.length).map fun o => o.getD []) = yss at *
            have HRy := Lib.hid HRx
            have HFl : Hid (yss.flatten.length ≤ 320) := Lib.hid (by omega)
            have HPn := Lib.hid HPm
            clear HRx HEx HPl8 HFx HPm
            have HOe := Lib.hid ho
            obtain ⟨Aq, cq, rfl⟩ := ho.sl2.opn
            have k0' := (hbw.cell (p := ⟨w.heap.size, 0, none⟩) l0).trans k0
            have j0' := (hbw.cell (p := ⟨w.heap.size + 1, 0, none⟩) l1).trans j0
            have l0' := Nat.lt_of_lt_of_le l0 hbw.size
            have l1' := Nat.lt_of_lt_of_le l1 hbw.size
            clear hbw ho
            generalize wr = wo at *
            by_cases hjn : j < ks.length
            all_goals
              have HYl : Hid (yss.length ≤ 8) := HPn
              have HRes : Hid (RES = if yss.any (fun y => y.length == 0) then none else if ((5, (0 : Int)) :: joinA 3 yss).length ≤ 40 then some ((5, 0) :: joinA 3 yss) else none) := HRy
              go_wp2
              go_loopw [23, 29] (fun lg i wr3 => ∃ n : Nat, n ≤ yss.length ∧ i = .int .i64 n ∧ lg = .bool ((yss.take n).any fun y => y.length == 0) ∧ Below wo.heap.size wo wr3) (fun _ i _ => yss.length - (intOf i).toNat)
              case atStart => exact ⟨0, Nat.zero_le _, rfl, rfl, Below.refl _ _⟩
              case round =>
                obtain ⟨n, hn, rfl, rfl, hbz⟩ := hrel
                have hY8 := HYl.out
                have HBz := Lib.hid hbz
                have HOz := Lib.hid (HOe.out.below hbz)
                by_cases hltn : n < yss.length
                · have hs2 := HOz.out.sl2
                  obtain ⟨b8, o8, Ai8, ci8, e8, hb8, hc8, hs8⟩ := hs2.atM hltn
                  subst e8
                  have HSu := Lib.hid (any_take_succ (fun y : List Nd => y.length == 0) yss n hltn)
                  generalize (yss.take n).any (fun y => y.length == 0) = g at *
                  generalize hm : (yss[n]'hltn).length = m at *
                  have HM := Lib.hid hm
                  clear hbz hs2 hs8 hm
                  cases g
                  · by_cases h0 : m = 0
                    · have HG : Hid (((yss.take (n + 1)).any fun y => y.length == 0) = true) := Lib.hid (by rw [HSu.out, h0]; rfl)
                      subst h0
                      go_wp2
                      go_roundw
                      case rel => exact ⟨n + 1, by omega, by go_num, by rw [HG.out], HBz.out⟩
                      case measure => simp [intOf]; omega
                    · have HG : Hid (((yss.take (n + 1)).any fun y => y.length == 0) = false) := Lib.hid (by rw [HSu.out]; simpa using h0)
                      have h00 : (((m : Nat) : Int) == 0) = false := beq_eq_false_iff_ne.2 (by omega)
                      go_wp2
                      go_roundw
                      case rel => exact ⟨n + 1, by omega, by go_num, by rw [HG.out], HBz.out⟩
                      case measure => simp [intOf]; omega
                  · have HG : Hid (((yss.take (n + 1)).any fun y => y.length == 0) = true) := Lib.hid (by rw [HSu.out]; rfl)
                    go_wp2
                    go_roundw
                    case rel => exact ⟨n + 1, by omega, by go_num, by rw [HG.out], HBz.out⟩
                    case measure => simp [intOf]; omega
                · obtain rfl : n = yss.length := by omega
                  rw [List.take_length]
                  have HS2z := Lib.hid HOz.out.sl2
                  have HBw3 : Hid (Below w.heap.size w wr) := Lib.hid (bthen (bthen HB.out HBe.out) HBz.out)
                  generalize yss.any (fun y => y.length == 0) = g at *
                  cases g
                  · have HR2 : Hid (RES = if ((5, (0 : Int)) :: joinA 3 yss).length ≤ 40 then some ((5, 0) :: joinA 3 yss) else none) := Lib.hid (by rw [HRes.out]; rfl)
                    have HAl := Lib.hid (spec_l02AllA 3 _ yss wr HS2z.out (by have := HYl.out; omega) (by have := HFl.out; omega))
                    clear hbz
                    go_wp2_with fail
                    refine HAl.out.mono ?_
                    rintro e w2 ⟨u2, rfl, ho, hb⟩
                    have hj : (joinA 3 yss).length ≤ 1000 := by
                      have h1 := HFl.out
                      have h2 := HYl.out
                      unfold joinA
                      split
                      · unfold joinE; split <;> simp
                      · rw [joinL_length]; omega
                    have HJ := Lib.hid hj
                    have HPre := Lib.hid (spec_l02Pre 5 u2 _ w2 ho.sl (by omega))
                    have HB8 := Lib.hid (bthen HBw3.out hb)
                    clear ho hb hj
                    go_wp2_with fail
                    refine HPre.out.mono ?_
                    rintro e w3 ⟨u3, rfl, ho, hb⟩
                    obtain ⟨A9, c9, rfl⟩ := ho.opn
                    have HO9 := Lib.hid (ho.mono HB8.out.size)
                    have HB9 := Lib.hid (bthen HB8.out hb)
                    clear ho hb
                    generalize ((5, (0 : Int)) :: joinA 3 yss) = res at *
                    by_cases h40 : res.length ≤ 40
                    · have HR3 : Hid (RES = some res) := Lib.hid (by rw [HR2.out, if_pos h40])
                      go_wp2
                      go_ret
                      exact ⟨_, rfl, by rw [HR3.out]; exact HO9.out, HB9.out⟩
                    · have HR3 : Hid (RES = none) := Lib.hid (by rw [HR2.out, if_neg h40])
                      go_wp2
                      go_ret
                      exact ⟨_, rfl, by rw [HR3.out]; exact Ow.nil _ _, HB9.out⟩
                  · have HR2 : Hid (RES = none) := Lib.hid (by rw [HRes.out]; rfl)
                    clear hbz
                    go_wp2
                    go_ret
                    exact ⟨_, rfl, by rw [HR2.out]; exact Ow.nil _ _, HBw3.out⟩
    · have HBe := Lib.hid hbw
      obtain ⟨HRx, HEx⟩ : (RES = joi 6 2 (pkd my (fun j => T s j) ks.length)) ∧ ∀ o ∈ pkd my (fun j => T s j) ks.length, ∀ xs, o = some xs → 0 < xs.length ∧ xs.length ≤ 40 := HS1.out s hs
      have HPl8 : (pkd my (fun j => T s j) ks.length).length ≤ ks.length := by unfold pkd; rw [List.length_map]; exact Nat.le_trans (List.length_filter_le _ _) (by simp)
      rw [joi_yss fun o ho xs hx => (HEx o ho xs hx).1, joiY] at HRx
      have HFx : ((pkd my (fun j => T s j) ks.length).map fun o => o.getD []).flatten.length ≤ 40 * ((pkd my (fun j => T s j) ks.length).map fun o => o.getD []).length := flat_le40 _ fun xs hx => by
        obtain ⟨o, ho, rfl⟩ := List.mem_map.1 hx
        cases o with
        | none => simp
        | some q => exact (HEx _ ho q rfl).2
      have HPm : ((pkd my (fun j => T s j) ks.length).map fun o => o.getD []).length ≤ 8 := by rw [List.length_map]; omega
      generalize ((pkd my (fun j => T s j) ks.length).map fun o => o.getD []) = yss at *
      have HRy := Lib.hid HRx
      have HFl : Hid (yss.flatten.length ≤ 320) := Lib.hid (by omega)
      have HPn := Lib.hid HPm
      clear HRx HEx HPl8 HFx HPm
      have HOe := Lib.hid ho
      obtain ⟨Aq, cq, rfl⟩ := ho.sl2.opn
      have k0' := (hbw.cell (p := ⟨w.heap.size, 0, none⟩) l0).trans k0
      have j0' := (hbw.cell (p := ⟨w.heap.size + 1, 0, none⟩) l1).trans j0
      have l0' := Nat.lt_of_lt_of_le l0 hbw.size
      have l1' := Nat.lt_of_lt_of_le l1 hbw.size
      clear hbw ho
      generalize wr = wo at *
      clear HS1 HS2 HS3 HLon HMis HTd HM HM2 HSl HL HLk HLkE HOL HBa HBq HEx HEy HK0 HK1 hs hcm hcn hcl k1 j1 k0 j0
      by_cases hjn : j < ns.length
      all_goals
        go_wp2
        go_loopw [20, 21, 22, 24, 27, 28] (fun kd jn q f i _ wr2 => kd = .int .i64 6 ∧ jn = .int .i64 2 ∧ q = .slice Aq yss.length cq ∧ f = .bool true ∧ i = .int .i64 0 ∧ wr2 = wo) (fun _ _ _ _ _ _ _ => 0)
        case atStart => exact ⟨rfl, rfl, rfl, rfl, rfl, rfl⟩
        case round =>
          obtain ⟨rfl, rfl, rfl, rfl, rfl, rfl⟩ := hrel
          generalize wr = wo at *
          have h0k : 0 < ks.length := by omega
          have h0k' : ((0 : Int) < (ks.length : Int)) := by omega
          have HYl : Hid (yss.length ≤ 8) := HPn
          have HRes : Hid (RES = if yss.any (fun y => y.length == 0) then none else if ((6, (0 : Int)) :: joinA 2 yss).length ≤ 40 then some ((6, 0) :: joinA 2 yss) else none) := HRy
          go_wp2
          go_loopw [23, 29] (fun lg i wr3 => ∃ n : Nat, n ≤ yss.length ∧ i = .int .i64 n ∧ lg = .bool ((yss.take n).any fun y => y.length == 0) ∧ Below wo.heap.size wo wr3) (fun _ i _ => yss.length - (intOf i).toNat)
          case atStart => exact ⟨0, Nat.zero_le _, rfl, rfl, Below.refl _ _⟩
          case round =>
            obtain ⟨n, hn, rfl, rfl, hbz⟩ := hrel
            have hY8 := HYl.out
            have HBz := Lib.hid hbz
            have HOz := Lib.hid (HOe.out.below hbz)
            by_cases hltn : n < yss.length
            · have hs2 := HOz.out.sl2
              obtain ⟨b8, o8, Ai8, ci8, e8, hb8, hc8, hs8⟩ := hs2.atM hltn
              subst e8
              have HSu := Lib.hid (any_take_succ (fun y : List Nd => y.length == 0) yss n hltn)
              generalize (yss.take n).any (fun y => y.length == 0) = g at *
              generalize hm : (yss[n]'hltn).length = m at *
              have HM := Lib.hid hm
              clear hbz hs2 hs8 hm
              cases g
              · by_cases h0 : m = 0
                · have HG : Hid (((yss.take (n + 1)).any fun y => y.length == 0) = true) := Lib.hid (by rw [HSu.out, h0]; rfl)
                  subst h0
                  go_wp2
                  go_roundw
                  case rel => exact ⟨n + 1, by omega, by go_num, by rw [HG.out], HBz.out⟩
                  case measure => simp [intOf]; omega
                · have HG : Hid (((yss.take (n + 1)).any fun y => y.length == 0) = false) := Lib.hid (by rw [HSu.out]; simpa using h0)
                  have h00 : (((m : Nat) : Int) == 0) = false := beq_eq_false_iff_ne.2 (by omega)
                  go_wp2
                  go_roundw
                  case rel => exact ⟨n + 1, by omega, by go_num, by rw [HG.out], HBz.out⟩
                  case measure => simp [intOf]; omega
              · have HG : Hid (((yss.take (n + 1)).any fun y => y.length == 0) = true) := Lib.hid (by rw [HSu.out]; rfl)
                go_wp2
                go_roundw
                case rel => exact ⟨n + 1, by omega, by go_num, by rw [HG.out], HBz.out⟩
                case measure => simp [intOf]; omega
            · obtain rfl : n = yss.length := by omega
              rw [List.take_length]
              have HS2z := Lib.hid HOz.out.sl2
              have HBw3 : Hid (Below w.heap.size w wr) := Lib.hid (bthen (bthen HB.out HBe.out) HBz.out)
              generalize yss.any (fun y => y.length == 0) = g at *
              cases g
              · have HR2 : Hid (RES = if ((6, (0 : Int)) :: joinA 2 yss).length ≤ 40 then some ((6, 0) :: joinA 2 yss) else none) := Lib.hid (by rw [HRes.out]; rfl)
                have HAl := Lib.hid (spec_l02AllA 2 _ yss wr HS2z.out (by have := HYl.out; omega) (by have := HFl.out; omega))
                clear hbz
                go_wp2_with fail
                refine HAl.out.mono ?_
                rintro e w2 ⟨u2, rfl, ho, hb⟩
                have hj : (joinA 2 yss).length ≤ 1000 := by
                  have h1 := HFl.out
                  have h2 := HYl.out
                  unfold joinA
                  split
                  · unfold joinE; split <;> simp
                  · rw [joinL_length]; omega
                have HJ := Lib.hid hj
                have HPre := Lib.hid (spec_l02Pre 6 u2 _ w2 ho.sl (by omega))
                have HB8 := Lib.hid (bthen HBw3.out hb)
                clear ho hb hj
                go_wp2_with fail
                refine HPre.out.mono ?_
                rintro e w3 ⟨u3, rfl, ho, hb⟩
                obtain ⟨A9, c9, rfl⟩ := ho.opn
                have HO9 := Lib.hid (ho.mono HB8.out.size)
                have HB9 := Lib.hid (bthen HB8.out hb)
                clear ho hb
                generalize ((6, (0 : Int)) :: joinA 2 yss) = res at *
                by_cases h40 : res.length ≤ 40
                · have HR3 : Hid (RES = some res) := Lib.hid (by rw [HR2.out, if_pos h40])
                  go_wp2
                  go_ret
                  exact ⟨_, rfl, by rw [HR3.out]; exact HO9.out, HB9.out⟩
                · have HR3 : Hid (RES = none) := Lib.hid (by rw [HR2.out, if_neg h40])
                  go_wp2
                  go_ret
                  exact ⟨_, rfl, by rw [HR3.out]; exact Ow.nil _ _, HB9.out⟩
              · have HR2 : Hid (RES = none) := Lib.hid (by rw [HRes.out]; rfl)
                clear hbz
                go_wp2
                go_ret
                exact ⟨_, rfl, by rw [HR2.out]; exact Ow.nil _ _, HBw3.out⟩
/- Contracts of chapter 7, of the reference: the table of telling formulas, as it is written. -/
theorem Sl.setFar {α : Type} {K : Cod α} {w : World} {v : Value} {xs : List α} (h : Sl K w v xs) {p : Addr} (hp : v.ownBlock ≠ some p.block) (u : Value) : Sl K (w.setCell p u) v xs := by
  obtain ⟨A, c, rfl, hc, hm, hr⟩ := h
  refine ⟨A, c, rfl, hc, hm, ?_⟩
  rcases hr with hr | ⟨b, o, rfl, hb, hcell⟩
  · exact .inl hr
  · refine .inr ⟨b, o, rfl, by simpa [World.setCell] using hb, fun k x hx => ?_⟩
    rw [World.cell?_setCell_far _ _ _ _ (fun e => hp (by show some b = _; rw [e]))]
    exact hcell k x hx
/-- rows of nothing, made one behind another -/
def TdG (B : Nat) (w : World) (vt : Value) (K X : Nat) : Prop :=
  ∃ (rows : List Hd) (g : Nat → Nat), Ow cH 84 B w vt rows ∧ rows.length = X ∧ ∀ i (hi : i < rows.length), rows[i] = ⟨some ⟨g i, 0, none⟩, K, K⟩ ∧ B ≤ g i ∧ vt.ownBlock ≠ some (g i) ∧ (∀ i', i' < i → g i' ≠ g i) ∧ Ow cH 38 B w (.slice (some ⟨g i, 0, none⟩) K K) (List.replicate K ⟨none, 0, 0⟩)
theorem TdG.below {B : Nat} {w w' : World} {vt : Value} {K X : Nat} (h : TdG B w vt K X) (hb : Below w.heap.size w w') : TdG B w' vt K X := by
  obtain ⟨rows, g, h1, h2, h3⟩ := h
  exact ⟨rows, g, h1.below hb, h2, fun i hi => by
    obtain ⟨a1, a2, a3, a4, a5⟩ := h3 i hi
    exact ⟨a1, a2, a3, a4, a5.below hb⟩⟩
theorem TdG.nil {B : Nat} {w : World} {vt : Value} {K : Nat} (h : Ow cH 84 B w vt []) : TdG B w vt K 0 := ⟨[], fun _ => 0, h, rfl, fun i hi => by simp at hi⟩
theorem TdG.push {B : Nat} {w w1 : World} {vt : Value} {K X : Nat} (h : TdG B w vt K X) (hB : B ≤ w.heap.size) (hg1 : w.grownBy w1 none) (hz : w.heap.size < w1.heap.size) (hm : Ow cH 38 B w1 (.slice (some ⟨w.heap.size, 0, none⟩) K K) (List.replicate K ⟨none, 0, 0⟩)) :
    ∃ rows : List Hd, Ow cH 84 B w1 vt rows ∧ rows.length = X ∧ ∀ w' v' cs e, Ow cH 84 B w' v' (rows ++ [⟨some ⟨w.heap.size, 0, none⟩, K, K⟩]) → (w1.alloc (.cells cs e)).grownBy w' vt.ownBlock →
      (v'.ownBlock = vt.ownBlock ∨ v'.ownBlock = some (w1.heap.size + 1)) → TdG B w' v' K (X + 1) := by
  obtain ⟨rows, g, h1, h2, h3⟩ := h
  have kn : ∀ v : Value, v.ownBlock = none ∨ v.ownBlock ≠ none := fun v => by
    cases hq : v.ownBlock with
    | none => exact .inl rfl
    | some k => exact .inr (by simp)
  refine ⟨rows, h1.kept hg1 (kn _), h2, fun w' v' cs e ho hg2 hat => ?_⟩
  refine ⟨_, fun i => if i < rows.length then g i else w.heap.size, ho, by simp [h2], fun i hi => ?_⟩
  have hvt : ∀ k, vt.ownBlock = some k → k < w.heap.size := fun k hk => (h1.block k hk).2
  by_cases hlt : i < rows.length
  · obtain ⟨a1, a2, a3, a4, a5⟩ := h3 i hlt
    have hgi := (a5.block (g i) rfl).2
    simp only [if_pos hlt]
    rw [List.getElem_append_left hlt]
    refine ⟨a1, a2, fun e3 => ?_, fun i' hi' => ?_, ((a5.kept hg1 (.inr (by simp [Value.ownBlock]))).alloc _).kept hg2 (.inr fun e4 => a3 e4.symm)⟩
    · rcases hat with e2 | e2
      · exact a3 (e2 ▸ e3)
      · rw [e2] at e3; injection e3 with e3; omega
    · rw [if_pos (by omega)]; exact a4 i' hi'
  · have hi2 : i = rows.length := by simp at hi; omega
    subst hi2
    simp only [Nat.lt_irrefl, if_false]
    refine ⟨by simp, hB, fun e3 => ?_, fun i' hi' => ?_, (hm.alloc _).kept hg2 (.inr fun e4 => ?_)⟩
    · rcases hat with e2 | e2
      · have := hvt _ (e2 ▸ e3); omega
      · rw [e2] at e3; injection e3 with e3; omega
    · rw [if_pos hi']
      obtain ⟨a1, a2, a3, a4, a5⟩ := h3 i' hi'
      have := (a5.block (g i') rfl).2
      omega
    · have := hvt _ e4.symm; exact absurd this (Nat.lt_irrefl _)
/-- a table of formulas that is written: rows of the call's own, made before all formulas -/
def TdW (B M : Nat) (w : World) (vt : Value) (N K : Nat) (T : Nat → Nat → Option (List Nd)) : Prop :=
  M ≤ w.heap.size ∧ ∃ (rows : List Hd) (g : Nat → Nat), Ow cH 84 B w vt rows ∧ rows.length = N ∧ (∀ k, vt.ownBlock = some k → k < M) ∧ ∀ i (hi : i < rows.length), rows[i] = ⟨some ⟨g i, 0, none⟩, K, K⟩ ∧ B ≤ g i ∧ g i < M ∧ vt.ownBlock ≠ some (g i) ∧ (∀ i', i' < rows.length → i' ≠ i → g i' ≠ g i) ∧
    ∃ cs : List Hd, Ow cH 38 B w (.slice (some ⟨g i, 0, none⟩) K K) cs ∧ cs.length = K ∧ ∀ j (hj : j < cs.length), Sl cN w cs[j].val ((T i j).getD []) ∧ ∀ k, cs[j].val.ownBlock = some k → M ≤ k ∧ k < w.heap.size
theorem TdG.td {B : Nat} {w : World} {vt : Value} {N K : Nat} (h : TdG B w vt K N) : TdW B w.heap.size w vt N K (fun _ _ => none) := by
  obtain ⟨rows, g, h1, h2, h3⟩ := h
  refine ⟨Nat.le_refl _, rows, g, h1, h2, fun k hk => (h1.block k hk).2, fun i hi => ?_⟩
  obtain ⟨a1, a2, a3, a4, a5⟩ := h3 i hi
  refine ⟨a1, a2, (a5.block (g i) rfl).2, a3, fun i' hi' hne => ?_, _, a5, by simp, fun j hj => ?_⟩
  · rcases Nat.lt_or_ge i' i with h5 | h5
    · exact a4 i' h5
    · obtain ⟨b1, b2, b3, b4, b5⟩ := h3 i' hi'
      exact (b4 i (by omega)).symm
  · rw [List.getElem_replicate]
    exact ⟨Sl.nil, fun k hk => by cases hk⟩
theorem TdW.below {B M : Nat} {w w' : World} {vt : Value} {N K : Nat} {T : Nat → Nat → Option (List Nd)} (h : TdW B M w vt N K T) (hb : Below w.heap.size w w') : TdW B M w' vt N K T := by
  obtain ⟨h0, rows, g, h1, h2, h4, h3⟩ := h
  refine ⟨Nat.le_trans h0 hb.size, rows, g, h1.below hb, h2, h4, fun i hi => ?_⟩
  obtain ⟨a1, a2, a3, a4, a5, cs, a6, a7, a8⟩ := h3 i hi
  exact ⟨a1, a2, a3, a4, a5, cs, a6.below hb, a7, fun j hj => ⟨(a8 j hj).1.below hb, fun k hk => ⟨((a8 j hj).2 k hk).1, Nat.lt_of_lt_of_le ((a8 j hj).2 k hk).2 hb.size⟩⟩⟩
theorem TdW.rd {B M : Nat} {w : World} {vt : Value} {N K : Nat} {T : Nat → Nat → Option (List Nd)} (h : TdW B M w vt N K T) : TdR w vt N K T := by
  obtain ⟨h0, rows, g, h1, h2, h4, h3⟩ := h
  refine ⟨rows, h1.sl, h2, fun i hi => ?_⟩
  obtain ⟨a1, a2, a3, a4, a5, cs, a6, a7, a8⟩ := h3 i hi
  exact ⟨cs, by rw [a1]; exact a6.sl, a7, fun j hj => ⟨(a8 j hj).1, fun k hk => ((a8 j hj).2 k hk).2⟩⟩
theorem TdW.put {B M : Nat} {w : World} {A : Option Addr} {n c : Nat} {N K : Nat} {T : Nat → Nat → Option (List Nd)} (h : TdW B M w (.slice A n c) N K T) {x y : Nat} (hx : x < N) (hy : y < K) :
    ∃ b gx, A = some ⟨b, 0, none⟩ ∧ b < w.heap.size ∧ w.cell? ⟨b, x, none⟩ = some (.slice (some ⟨gx, 0, none⟩) K K) ∧ B ≤ gx ∧ gx < w.heap.size ∧ b ≠ gx ∧ w.frozen? ⟨gx, y, none⟩ = false ∧ (∃ u0, w.cell? ⟨gx, y, none⟩ = some u0) ∧
      ∀ w1, Below w.heap.size w w1 → ∀ (u : Hd) (xs : Option (List Nd)), Sl cN w1 u.val (xs.getD []) → (∀ k, u.val.ownBlock = some k → w.heap.size ≤ k ∧ k < w1.heap.size) →
        TdW B M (w1.setCell ⟨gx, y, none⟩ u.val) (.slice A n c) N K (fun i j => if i = x ∧ j = y then xs else T i j) := by
  obtain ⟨h0, rows, g, h1, h2, h4, h3⟩ := h
  have hx' : x < rows.length := by omega
  obtain ⟨a1, a2, a3, a4, a5, cs, a6, a7, a8⟩ := h3 x hx'
  have hy' : y < cs.length := by omega
  obtain ⟨A', c', e0⟩ := h1.opn
  injection e0 with e1 e2 e3
  subst e1; subst e2; subst e3
  obtain ⟨b, e1, hbB, hbz⟩ := h1.head (by omega)
  subst e1
  obtain ⟨d1, d2, -, -⟩ := h1.at1 rfl hx' (u := rows[x].val) rfl
  rw [a1] at d1
  obtain ⟨f1, f2, -, -⟩ := a6.at1 rfl hy' (u := cs[y].val) rfl
  refine ⟨b, g x, rfl, hbz, d1, a2, by omega, fun e => a4 (by rw [← e]; rfl), f2, ⟨_, f1⟩, fun w1 hb u xs hu hk => ?_⟩
  have hne : ∀ v : Value, (∀ k, v.ownBlock = some k → M ≤ k) → v.ownBlock ≠ some (g x) := fun v hv e => by have := hv _ e; omega
  refine ⟨by have := hb.size; simp [World.setCell]; omega, rows, g, (h1.below hb).far (p := ⟨g x, y, none⟩) a4 _, h2, h4, fun i hi => ?_⟩
  obtain ⟨b1, b2, b3, b4, b5, ds, b6, b7, b8⟩ := h3 i hi
  refine ⟨b1, b2, b3, b4, b5, ?_⟩
  have hzz : (w1.setCell ⟨g x, y, none⟩ u.val).heap.size = w1.heap.size := by simp [World.setCell]
  by_cases hix : i = x
  · subst hix
    refine ⟨cs.set y u, (a6.below hb).set1 rfl rfl hy', by simp [a7], fun j hj => ?_⟩
    rw [hzz]
    simp only [List.length_set] at hj
    rw [List.getElem_set]
    by_cases hjy : y = j
    · subst hjy
      dsimp only
      rw [if_pos rfl, if_pos ⟨rfl, rfl⟩]
      exact ⟨hu.setFar (hne _ fun k e => by have := hk k e; omega) _, fun k e => by have := hk k e; omega⟩
    · dsimp only
      rw [if_neg hjy, if_neg (fun e => hjy e.2.symm)]
      obtain ⟨q1, q2⟩ := a8 j hj
      exact ⟨(q1.below hb).setFar (hne _ fun k e => (q2 k e).1) _, fun k e => ⟨(q2 k e).1, Nat.lt_of_lt_of_le (q2 k e).2 hb.size⟩⟩
  · refine ⟨ds, (b6.below hb).far (p := ⟨g x, y, none⟩) (fun e => b5 x hx' (fun e => hix e.symm) (by injection e with e; exact e.symm)) _, b7, fun j hj => ?_⟩
    dsimp only
    rw [if_neg (fun e => hix e.1), hzz]
    obtain ⟨q1, q2⟩ := b8 j hj
    exact ⟨(q1.below hb).setFar (hne _ fun k e => (q2 k e).1) _, fun k e => ⟨(q2 k e).1, Nat.lt_of_lt_of_le (q2 k e).2 hb.size⟩⟩
theorem ty_nodes3 : Ty Tryz.prog 85 84 (.slice none 0 0) 1 24 := Ty.mk' Tryz.underlying85 (by kernel_rfl) rfl (by decide)
/- Contracts of chapter 7, of the reference: the table of all telling formulas. -/
theorem spec_l07Tell_all (ns us ks ts : List Nat) (A0 A1 B0 B1 L At : Option Addr) (c0 c1 d0 d1 lc ct x y k : Nat) (T : Nat → Nat → Option (List Nd)) (w : World) (hm : Mdl w (.slice A0 ns.length c0) (.slice A1 6 c1) ns us) (hm2 : Mdl w (.slice B0 ks.length d0) (.slice B1 6 d1) ks ts) (h1 : MdN ns us) (h2 : MdN ks ts) (hx : x < ns.length) (hy : y < ks.length) (hrd : rd ns us ks ts x y = some k)
    (hL : Sl2 cI w (.slice L 17 lc) (bdL ns us ks ts 16)) (hT : TdR w (.slice At ns.length ct) ns.length ks.length T) (hTT : ∀ i j k', i < ns.length → j < ks.length → rd ns us ks ts i j = some k' → k' < k → T i j = tab ns us ks ts k' i j) :
    Calls Tryz.prog 128 #[.agg #[.int .i64 ns.length, .slice A0 ns.length c0, .slice A1 6 c1], .agg #[.int .i64 ks.length, .slice B0 ks.length d0, .slice B1 6 d1], .slice L 17 lc, .slice At ns.length ct, .int .i64 x, .int .i64 y, .int .i64 k] w
      fun e w' => ∃ u, e = .returned u ∧ Ow cN 89 w.heap.size w' u ((tab ns us ks ts k x y).getD []) ∧ Below w.heap.size w w' := by
  cases k with
  | zero =>
    obtain ⟨v, hv⟩ := rd_zero hx hy hrd
    have h := spec_l07Tell_zero ns us ks ts A0 A1 B0 B1 c0 c1 d0 d1 x y v (.slice L 17 lc) (.slice At ns.length ct) w hm hm2 h1 h2 (by have := h1.r.1; omega) (by have := h2.r.1; omega) hv
    refine h.mono fun e w' ⟨u, he, ho, hb⟩ => ⟨u, he, ?_, hb⟩
    rw [tab, if_pos hrd, atomF, hv]
    exact ho
  | succ κ =>
    exact spec_l07Tell_succ ns us ks ts A0 A1 B0 B1 L At c0 c1 d0 d1 lc ct x y κ T w hm hm2 h1 h2 hx hy hrd hL hT fun i j k' hi hj hr hk => by
      rw [hTT i j k' hi hj hr (by omega), tab_at hr κ hk]
theorem rdI_eq (ns us ks ts : List Nat) (x y k : Nat) : (rdI ns us ks ts x y == (k : Int)) = decide (rd ns us ks ts x y = some k) := by
  rw [show rdI ns us ks ts x y = oI (rd ns us ks ts x y) by unfold rdI oI; rfl]
  cases rd ns us ks ts x y with
  | none => rw [show oI none = -1 from rfl]; simp
  | some j =>
    rw [show oI (some j) = (j : Int) from rfl, Bool.eq_iff_iff]
    simp; omega
/-- what the table holds: the rounds before k, of round k the rows before x, and of row x what comes before y -/
def TdOK (ns us ks ts : List Nat) (T : Nat → Nat → Option (List Nd)) (k x y : Nat) : Prop :=
  ∀ i j k', i < ns.length → j < ks.length → rd ns us ks ts i j = some k' → (k' < k ∨ k' = k ∧ (i < x ∨ i = x ∧ j < y)) → T i j = tab ns us ks ts k' i j
theorem TdOK.zero {ns us ks ts : List Nat} {T : Nat → Nat → Option (List Nd)} : TdOK ns us ks ts T 0 0 0 := fun i j k' _ _ _ h => by omega
theorem TdOK.nextX {ns us ks ts : List Nat} {T : Nat → Nat → Option (List Nd)} {k x : Nat} (h : TdOK ns us ks ts T k x ks.length) : TdOK ns us ks ts T k (x + 1) 0 := fun i j k' hi hj hr hk => h i j k' hi hj hr (by omega)
theorem TdOK.nextK {ns us ks ts : List Nat} {T : Nat → Nat → Option (List Nd)} {k : Nat} (h : TdOK ns us ks ts T k ns.length 0) : TdOK ns us ks ts T (k + 1) 0 0 := fun i j k' hi hj hr hk => h i j k' hi hj hr (by omega)
theorem TdOK.skip {ns us ks ts : List Nat} {T : Nat → Nat → Option (List Nd)} {k x y : Nat} (h : TdOK ns us ks ts T k x y) (hn : rd ns us ks ts x y ≠ some k) : TdOK ns us ks ts T k x (y + 1) := fun i j k' hi hj hr hk => by
  by_cases e : i = x ∧ j = y ∧ k' = k
  · obtain ⟨rfl, rfl, rfl⟩ := e; exact absurd hr hn
  · exact h i j k' hi hj hr (by omega)
theorem TdOK.put {ns us ks ts : List Nat} {T : Nat → Nat → Option (List Nd)} {k x y : Nat} (h : TdOK ns us ks ts T k x y) (hn : rd ns us ks ts x y = some k) : TdOK ns us ks ts (fun i j => if i = x ∧ j = y then tab ns us ks ts k x y else T i j) k x (y + 1) := fun i j k' hi hj hr hk => by
  by_cases e : i = x ∧ j = y
  · obtain ⟨rfl, rfl⟩ := e
    rw [hn] at hr
    injection hr with hr
    subst hr
    simp
  · simp only [if_neg e]
    exact h i j k' hi hj hr (by omega)
set_option maxRecDepth 100000 in
set_option maxHeartbeats 2000000 in
theorem spec_l07Told (ns us ks ts : List Nat) (A0 A1 B0 B1 L : Option Addr) (c0 c1 d0 d1 lc : Nat) (w : World) (hm : Mdl w (.slice A0 ns.length c0) (.slice A1 6 c1) ns us) (hm2 : Mdl w (.slice B0 ks.length d0) (.slice B1 6 d1) ks ts) (h1 : MdN ns us) (h2 : MdN ks ts) (hn0 : 0 < ns.length) (hk0 : 0 < ks.length)
    (hL : Sl2 cI w (.slice L 17 lc) (bdL ns us ks ts 16)) :
    Calls Tryz.prog 63 #[.agg #[.int .i64 ns.length, .slice A0 ns.length c0, .slice A1 6 c1], .agg #[.int .i64 ks.length, .slice B0 ks.length d0, .slice B1 6 d1], .slice L 17 lc] w
      fun e w' => ∃ vt T, e = .returned vt ∧ TdR w' vt ns.length ks.length T ∧ (∀ i j k', i < ns.length → j < ks.length → rd ns us ks ts i j = some k' → T i j = tab ns us ks ts k' i j) ∧ Below w.heap.size w w' := by
  have h8 := h1.r.1
  have hk8 := h2.r.1
  have hb0 := below_alloc' w (.cells #[.int .i64 ns.length, .slice A0 ns.length c0, .slice A1 6 c1] 28)
  have hc0 := Blk.new w 28 #[.int .i64 ns.length, .slice A0 ns.length c0, .slice A1 6 c1]
  have hb1 := below_alloc' (w.alloc (.cells #[.int .i64 ns.length, .slice A0 ns.length c0, .slice A1 6 c1] 28)) (.cells #[.int .i64 ks.length, .slice B0 ks.length d0, .slice B1 6 d1] 28)
  have hc1 : Blk _ (w.heap.size + 1) _ _ := Blk.new' (w.alloc (.cells #[.int .i64 ns.length, .slice A0 ns.length c0, .slice A1 6 c1] 28)) 28 #[.int .i64 ks.length, .slice B0 ks.length d0, .slice B1 6 d1] (by simp)
  have HB := Lib.hid (bthen hb0 hb1)
  have HK0 := Lib.hid (hc0.below hb1 hc0.lt)
  have HK1 := Lib.hid hc1
  have HRo := Lib.hid (fun x y (hx : x < ns.length) (hy : y < ks.length) W (hW : Below w.heap.size w W) => spec_l07Rounds ns us ks ts x y _ W (hL.below hW) hx hy hk8)
  have HTe := Lib.hid (fun x y k (hx : x < ns.length) (hy : y < ks.length) (hrd : rd ns us ks ts x y = some k) At ct T W (hW : Below w.heap.size w W) hT hTT => spec_l07Tell_all ns us ks ts A0 A1 B0 B1 L At c0 c1 d0 d1 lc ct x y k T W (hm.below hW) (hm2.below hW) h1 h2 hx hy hrd (hL.below hW) hT hTT)
  have HRE := Lib.hid (fun x y k => rdI_eq ns us ks ts x y k)
  have HEnd : Hid (∀ T, TdOK ns us ks ts T 17 0 0 → ∀ i j k', i < ns.length → j < ks.length → rd ns us ks ts i j = some k' → T i j = tab ns us ks ts k' i j) := Lib.hid fun T h i j k' hi hj hr => h i j k' hi hj hr (.inl (rd_spec hr).1)
  have HL17 := Lib.hid ((hL.below hb0).below hb1)
  clear hb0 hb1 hc0 hc1 hm hm2 h1 h2 hL
  go_enter Tryz.func63, Tryz.ntmps63
  go_upto_region 1 with fail
  generalize World.alloc (w.alloc _) _ = W at *
  have k0 := HK0.out.cell 0
  have j0 := HK1.out.cell 0
  have l0 := HK0.out.lt
  have l1 := HK1.out.lt
  simp only [List.getElem?_toArray, List.getElem?_cons_zero] at k0 j0
  have hO0 : Ow cH 84 W.heap.size (W.alloc (.cells #[] 84)) (.slice (some ⟨W.heap.size, 0, none⟩) 0 0) [] := Ow.lit [] rfl rfl (Nat.le_refl _)
  have HG0 : Hid (TdG W.heap.size (W.alloc (.cells #[] 84)) (.slice (some ⟨W.heap.size, 0, none⟩) 0 0) ks.length 0) := Lib.hid (TdG.nil hO0)
  have HBa : Hid (Below W.heap.size W (W.alloc (.cells #[] 84))) := Lib.hid (below_alloc' _ _)
  clear hO0
  go_wp2
  go_loopw [7, 8] (fun vt i wr => ∃ j : Nat, j ≤ ns.length ∧ i = .int .i64 j ∧ TdG W.heap.size wr vt ks.length j ∧ Below W.heap.size W wr) (fun _ i _ => ns.length - (intOf i).toNat)
  case atStart => exact ⟨0, Nat.zero_le _, rfl, HG0.out, HBa.out⟩
  case round =>
    obtain ⟨j, hj, rfl, hg, hbw⟩ := hrel
    have HBw := Lib.hid hbw
    have HG := Lib.hid hg
    have k0' := (hbw.cell (p := ⟨w.heap.size, 0, none⟩) l0).trans k0
    have j0' := (hbw.cell (p := ⟨w.heap.size + 1, 0, none⟩) l1).trans j0
    have l0' := Nat.lt_of_lt_of_le l0 hbw.size
    have l1' := Nat.lt_of_lt_of_le l1 hbw.size
    have hsz := hbw.size
    by_cases hlt : j < ns.length
    · clear hg hbw
      go_wp2_with (at_make; refine stopHere ?_)
      refine goHere ?_
      refine mk_full (K := cH) wr ty_nodes7 rfl _ _ rfl wr.heap.size ks.length (⟨none, 0, 0⟩ : Hd) rfl rfl rfl (by omega) (Nat.le_refl _) ?_
      intro w2 ho hgr hb hz
      obtain ⟨rows, hr1, hr2, hr3⟩ := HG.out.push hsz hgr hz (ho.mono hsz)
      have HR1 := Lib.hid hr1
      have HR3 := Lib.hid hr3
      have HB2 := Lib.hid (HBw.out.trans (hb.mono hsz))
      have hsz2 := HB2.out.size
      clear ho hgr hb hr1 hr3 HG
      go_wp2_with (at_builtin; refine stopHere ?_)
      refine goHere ?_
      refine ap_one (K := cH) _ ty_nodes3 rfl _ _ rfl (xs := rows) rfl HR1.out (⟨some ⟨wr.heap.size, 0, none⟩, ks.length, ks.length⟩ : Hd) rfl rfl (by omega) hsz2 ?_
      intro v1 w6 ho1 hg1 hb1 hat1
      have HG6 := Lib.hid (HR3.out w6 v1 _ _ ho1 hg1 hat1)
      have HB6 : Hid (Below W.heap.size W w6) := Lib.hid (HB2.out.trans hb1)
      clear ho1 hg1 hb1 hat1 HR1 HR3
      go_wp2
      go_roundw
      case rel => exact ⟨j + 1, by omega, by go_num, HG6.out, HB6.out⟩
      case measure => simp [intOf]; omega
    · obtain rfl : j = ns.length := by omega
      have htd := hg.td
      obtain ⟨At, ct, rfl⟩ := htd.rd.opn
      have HTd := Lib.hid htd
      clear hg hbw htd HG
      generalize wr = wM at *
      go_wp2
      go_loopw [9, 10, 11] (fun k _ _ wr2 => ∃ n : Nat, n ≤ 17 ∧ k = .int .i64 n ∧ ∃ T, TdW W.heap.size wM.heap.size wr2 (.slice At ns.length ct) ns.length ks.length T ∧ TdOK ns us ks ts T n 0 0 ∧ Below W.heap.size W wr2) (fun k _ _ _ => 17 - (intOf k).toNat)
      case atStart => exact ⟨0, Nat.zero_le _, rfl, _, HTd.out, TdOK.zero, HBw.out⟩
      case round =>
        obtain ⟨n, hn, rfl, T, ht, hok, hbw⟩ := hrel
        have HBk := Lib.hid hbw
        have HT := Lib.hid ht
        have HOK := Lib.hid hok
        clear ht hok hbw
        by_cases hlt : n < 17
        · have hlt17 : decide ((n : Int) < 17) = true := decide_eq_true (by omega)
          generalize wr = wk at *
          go_wp2
          go_loopw [10, 11] (fun i _ wr2 => ∃ x : Nat, x ≤ ns.length ∧ i = .int .i64 x ∧ ∃ T, TdW W.heap.size wM.heap.size wr2 (.slice At ns.length ct) ns.length ks.length T ∧ TdOK ns us ks ts T n x 0 ∧ Below W.heap.size W wr2) (fun i _ _ => ns.length - (intOf i).toNat)
          case atStart => exact ⟨0, Nat.zero_le _, rfl, T, HT.out, HOK.out, HBk.out⟩
          case round =>
            clear HT HOK HBk
            obtain ⟨x, hx, rfl, T2, ht, hok, hbw⟩ := hrel
            have HBk := Lib.hid hbw
            have HT := Lib.hid ht
            have HOK := Lib.hid hok
            have k0' := (hbw.cell (p := ⟨w.heap.size, 0, none⟩) l0).trans k0
            have l0' := Nat.lt_of_lt_of_le l0 hbw.size
            clear ht hok hbw
            by_cases hltx : x < ns.length
            · generalize wr = wx at *
              go_wp2
              go_loopw [11] (fun i wr2 => ∃ y : Nat, y ≤ ks.length ∧ i = .int .i64 y ∧ ∃ T, TdW W.heap.size wM.heap.size wr2 (.slice At ns.length ct) ns.length ks.length T ∧ TdOK ns us ks ts T n x y ∧ Below W.heap.size W wr2) (fun i _ => ks.length - (intOf i).toNat)
              case atStart => exact ⟨0, Nat.zero_le _, rfl, T2, HT.out, HOK.out, HBk.out⟩
              case round =>
                clear HT HOK HBk
                obtain ⟨y, hy, rfl, T3, ht, hok, hbw⟩ := hrel
                have HBk := Lib.hid hbw
                have HT := Lib.hid ht
                have HOK := Lib.hid hok
                have j0' := (hbw.cell (p := ⟨w.heap.size + 1, 0, none⟩) l1).trans j0
                have l1' := Nat.lt_of_lt_of_le l1 hbw.size
                by_cases hlty : y < ks.length
                · have HRo3 := Lib.hid (HRo.out x y hltx hlty wr (bthen HB.out hbw))
                  have hre := HRE.out x y n
                  by_cases hrd : rd ns us ks ts x y = some n
                  · rw [decide_eq_true hrd] at hre
                    have HRd := Lib.hid hrd
                    have HTt : Hid (∀ X, Below wr.heap.size wr X → Calls Tryz.prog 128 #[.agg #[.int .i64 ns.length, .slice A0 ns.length c0, .slice A1 6 c1], .agg #[.int .i64 ks.length, .slice B0 ks.length d0, .slice B1 6 d1], .slice L 17 lc, .slice At ns.length ct, .int .i64 x, .int .i64 y, .int .i64 n] X
                      fun e w' => ∃ u, e = .returned u ∧ Ow cN 89 X.heap.size w' u ((tab ns us ks ts n x y).getD []) ∧ Below X.heap.size X w') := Lib.hid fun X hX => HTe.out x y n hltx hlty hrd _ ct T3 X (bthen (bthen HB.out hbw) hX) (ht.below hX).rd fun i j k' hi hj hr hk => hok i j k' hi hj hr (.inl hk)
                    have HNx := Lib.hid (hok.put hrd)
                    obtain ⟨b, gx, e1, hbz, hcx, hgB, hgz, hbg, hfz, ⟨u0, hu0⟩, hput⟩ := ht.put hltx hlty
                    subst e1
                    have HPut := Lib.hid hput
                    have m0 := (hbw.cell (p := ⟨w.heap.size, 0, none⟩) l0).trans (HK0.out.cell 0)
                    have m1 := (hbw.cell (p := ⟨w.heap.size, 1, none⟩) l0).trans (HK0.out.cell 1)
                    have m2 := (hbw.cell (p := ⟨w.heap.size, 2, none⟩) l0).trans (HK0.out.cell 2)
                    have n0 := (hbw.cell (p := ⟨w.heap.size + 1, 0, none⟩) l1).trans (HK1.out.cell 0)
                    have n1 := (hbw.cell (p := ⟨w.heap.size + 1, 1, none⟩) l1).trans (HK1.out.cell 1)
                    have n2 := (hbw.cell (p := ⟨w.heap.size + 1, 2, none⟩) l1).trans (HK1.out.cell 2)
                    simp only [List.getElem?_toArray, List.getElem?_cons_zero, List.getElem?_cons_succ] at m0 m1 m2 n0 n1 n2
                    have l0' := Nat.lt_of_lt_of_le l0 hbw.size
                    generalize tab ns us ks ts n x y = res at *
                    generalize rdI ns us ks ts x y = ri at *
                    have HQ := Lib.hid (And.intro hcx (And.intro hu0 hfz))
                    clear ht hok hbw hput hcx hu0 hfz hrd
                    go_wp2_with fail
                    refine HRo3.out.mono ?_
                    rintro e w2 ⟨rfl, rfl⟩
                    go_upto_region 30 with fail
                    have hcx := HQ.out.1
                    refine wp_region_sched (Below wr.heap.size wr) 14 [0, 1, 2, 3, 4, 5, 6, 7, 8, 9, 10, 11, 13] [0, 1, 2, 3, 4, 5, 6, 7, 8, 9, 10, 11, 12, 13] (by kernel_rfl) (by kernel_rfl) (Below.refl _ _).drew ?_
                    repeat
                      apply wpSched_q rfl rfl
                      case h =>
                        intro w' hI K hK
                        have hcx' := (hI.cell (p := ⟨b, x, none⟩) hbz).trans hcx
                        have m0' := (hI.cell (p := ⟨w.heap.size, 0, none⟩) l0').trans m0
                        have m1' := (hI.cell (p := ⟨w.heap.size, 1, none⟩) l0').trans m1
                        have m2' := (hI.cell (p := ⟨w.heap.size, 2, none⟩) l0').trans m2
                        have n0' := (hI.cell (p := ⟨w.heap.size + 1, 0, none⟩) l1').trans n0
                        have n1' := (hI.cell (p := ⟨w.heap.size + 1, 1, none⟩) l1').trans n1
                        have n2' := (hI.cell (p := ⟨w.heap.size + 1, 2, none⟩) l1').trans n2
                        simp only [quietV, stillV]
                        go_simp
                        exact hK
                      go_simp
                    refine wpSched_r rfl rfl ?_ (Below.refl _ _).drew
                    intro K hK hI
                    go_simp
                    refine (HTt.out _ hI).mono ?_
                    rintro e w9 ⟨u, rfl, ho, hb⟩
                    have hI9 := hI.trans (hb.mono hI.size)
                    refine hK _ _ hI9 ?_
                    clear hK K
                    obtain ⟨A9, c9, rfl⟩ := ho.opn
                    have hbl := ho.block
                    have HTn := Lib.hid (HPut.out w9 hI9 ⟨A9, (res.getD []).length, c9⟩ res ho.sl (fun k hk => hbl k hk))
                    have f9 := (hI9.frozen (p := ⟨gx, y, none⟩) hgz).trans HQ.out.2.2
                    have x9 := (hI9.cell (p := ⟨gx, y, none⟩) hgz).trans HQ.out.2.1
                    have g9 := Nat.lt_of_lt_of_le hgz hI9.size
                    have HB9 : Hid (∀ u, Below W.heap.size W (w9.setCell ⟨gx, y, none⟩ u)) := Lib.hid fun u => (HBk.out.trans (hI9.mono HBk.out.size)).setCell hgB _
                    generalize (res.getD []).length = rl at *
                    repeat
                      apply wpSched_q rfl rfl
                      case h =>
                        intro w' hI K hK
                        simp only [quietV, stillV]
                        go_simp
                        exact hK
                      go_simp
                    clear ho hb hI hI9 hbl hcx m0 m1 m2 n0 n1 n2
                    refine wpSched_nil ?_
                    try simp only [List.drop_succ_cons, List.drop_zero, List.drop_nil]
                    go_wp2
                    go_roundw
                    case rel => exact ⟨y + 1, by omega, by go_num, _, HTn.out, HNx.out, HB9.out _⟩
                    case measure => simp [intOf]; omega
                  · rw [decide_eq_false hrd] at hre
                    have HNx := Lib.hid (hok.skip hrd)
                    generalize rdI ns us ks ts x y = ri at *
                    clear ht hok hbw hrd
                    go_wp2_with fail
                    refine HRo3.out.mono ?_
                    rintro e w2 ⟨rfl, rfl⟩
                    go_wp2
                    go_roundw
                    case rel => exact ⟨y + 1, by omega, by go_num, T3, HT.out, HNx.out, HBk.out⟩
                    case measure => simp [intOf]; omega
                · obtain rfl : y = ks.length := by omega
                  have HNx := Lib.hid hok.nextX
                  clear ht hok hbw
                  go_wp2
                  go_roundw
                  case rel => exact ⟨x + 1, by omega, by go_num, T3, HT.out, HNx.out, HBk.out⟩
                  case measure => simp [intOf]; omega
            · obtain rfl : x = ns.length := by omega
              have HNx := Lib.hid HOK.out.nextK
              go_wp2
              go_roundw
              case rel => exact ⟨n + 1, by omega, by go_num, T2, HT.out, HNx.out, HBk.out⟩
              case measure => simp [intOf]; omega
        · obtain rfl : n = 17 := by omega
          go_wp2
          go_ret
          exact ⟨_, T, rfl, HT.out.rd, HEnd.out T HOK.out, bthen HB.out HBk.out⟩
/- TellingFormula of the reference. -/
set_option maxRecDepth 100000 in
theorem spec_TellingFormula_bad (n x k y : Int) (va vu vb vt : Value) (xs vs ys ts : List Int) (w : World) (ha : Sl cI w va xs) (hu : Sl cI w vu vs) (hb : Sl cI w vb ys) (ht : Sl cI w vt ts) (hl : xs.length + vs.length ≤ 1048576) (hl' : ys.length + ts.length ≤ 1048576) (hc : tcode n xs vs x k ys ts y ≠ 0) :
    Calls Tryz.prog 22 #[.agg #[.int .i64 n, va, vu], .int .i64 x, .agg #[.int .i64 k, vb, vt], .int .i64 y] w fun e w' => e = .returned (.tuple #[.slice none 0 0, .int .i64 (tcode n xs vs x k ys ts y)]) ∧ Below w.heap.size w w' := by
  obtain ⟨A0, c0, rfl⟩ := ha.opn
  obtain ⟨A1, c1, rfl⟩ := hu.opn
  obtain ⟨B0, d0, rfl⟩ := hb.opn
  obtain ⟨B1, d1, rfl⟩ := ht.opn
  have hb0 := below_alloc' w (.cells #[.int .i64 n, .slice A0 xs.length c0, .slice A1 vs.length c1] 28)
  have hk0 := Blk.new w 28 #[.int .i64 n, .slice A0 xs.length c0, .slice A1 vs.length c1]
  have hb1 := below_alloc' (w.alloc (.cells #[.int .i64 n, .slice A0 xs.length c0, .slice A1 vs.length c1] 28)) (.cells #[.int .i64 k, .slice B0 ys.length d0, .slice B1 ts.length d1] 28)
  have hk1 : Blk _ (w.heap.size + 1) _ _ := Blk.new' (w.alloc (.cells #[.int .i64 n, .slice A0 xs.length c0, .slice A1 vs.length c1] 28)) 28 #[.int .i64 k, .slice B0 ys.length d0, .slice B1 ts.length d1] (by simp)
  have hbb := bthen hb0 hb1
  have HB := Lib.hid hbb
  have HK0 := Lib.hid (hk0.below hb1 hk0.lt)
  have HK1 := Lib.hid hk1
  have HC := Lib.hid (fun W (hW : Below w.heap.size w W) => spec_l07Places n x k y _ _ _ _ xs vs ys ts W (ha.below hW) (hu.below hW) (hb.below hW) (ht.below hW) hl hl')
  have hc' : (tcode n xs vs x k ys ts y != 0) = true := by simpa using hc
  generalize tcode n xs vs x k ys ts y = q at *
  clear hb0 hb1 hk0 hk1 hbb ha hu hb ht hc
  go_enter Tryz.func22, Tryz.ntmps22
  go_upto_region 1 with fail
  generalize World.alloc (w.alloc _) _ = W at *
  have k0 := HK0.out.cell
  have k1 := HK1.out.cell
  have l0 := HK0.out.lt
  have l1 := HK1.out.lt
  go_wp2_with fail
  refine (HC.out _ HB.out).mono ?_
  rintro e w1 ⟨rfl, hb⟩
  have HB1 := Lib.hid (bthen HB.out hb)
  clear hb k0 k1 l0 l1
  go_wp2
  go_ret2
  exact ⟨rfl, HB1.out⟩
set_option maxRecDepth 100000 in
theorem spec_TellingFormula_ok (ns us ks ts : List Nat) (x y : Nat) (A0 A1 B0 B1 : Option Addr) (c0 c1 d0 d1 : Nat) (w : World) (hm : Mdl w (.slice A0 ns.length c0) (.slice A1 6 c1) ns us) (hm2 : Mdl w (.slice B0 ks.length d0) (.slice B1 6 d1) ks ts) (h1 : MdN ns us) (h2 : MdN ks ts) (hc : tcode ns.length (li ns) (li us) x ks.length (li ks) (li ts) y = 0) (hx : x < ns.length) (hy : y < ks.length) :
    Calls Tryz.prog 22 #[.agg #[.int .i64 ns.length, .slice A0 ns.length c0, .slice A1 6 c1], .int .i64 x, .agg #[.int .i64 ks.length, .slice B0 ks.length d0, .slice B1 6 d1], .int .i64 y] w fun e w' => ∃ u, e = .returned (.tuple #[u, .int .i64 (tres ns us ks ts x y).2]) ∧ Ow cN 89 w.heap.size w' u (tres ns us ks ts x y).1 ∧ Below w.heap.size w w' := by
  have h8 := h1.r.1
  have hk8 := h2.r.1
  have hb0 := below_alloc' w (.cells #[.int .i64 ns.length, .slice A0 ns.length c0, .slice A1 6 c1] 28)
  have hk0 := Blk.new w 28 #[.int .i64 ns.length, .slice A0 ns.length c0, .slice A1 6 c1]
  have hb1 := below_alloc' (w.alloc (.cells #[.int .i64 ns.length, .slice A0 ns.length c0, .slice A1 6 c1] 28)) (.cells #[.int .i64 ks.length, .slice B0 ks.length d0, .slice B1 6 d1] 28)
  have hk1 : Blk _ (w.heap.size + 1) _ _ := Blk.new' (w.alloc (.cells #[.int .i64 ns.length, .slice A0 ns.length c0, .slice A1 6 c1] 28)) 28 #[.int .i64 ks.length, .slice B0 ks.length d0, .slice B1 6 d1] (by simp)
  have HB := Lib.hid (bthen hb0 hb1)
  have HK0 := Lib.hid (hk0.below hb1 hk0.lt)
  have HK1 := Lib.hid hk1
  have HC := Lib.hid (fun W (hW : Below w.heap.size w W) => hc ▸ spec_l07Places ns.length x ks.length y _ _ _ _ (li ns) (li us) (li ks) (li ts) W (hm.a.below hW) (hm.u.below hW) (hm2.a.below hW) (hm2.u.below hW) (by rw [li_length, li_length, h1.l]; omega) (by rw [li_length, li_length, h2.l]; omega))
  have HNew := Lib.hid (fun W (hW : Below w.heap.size w W) => spec_l07Bounded ns us ks ts A0 A1 B0 B1 c0 c1 d0 d1 W (hm.below hW) (hm2.below hW) h1 h2)
  have HRo := Lib.hid (fun v W hv => spec_l07Rounds ns us ks ts x y v W hv hx hy hk8)
  have HTo := Lib.hid (fun L lc W (hW : Below w.heap.size w W) hL => spec_l07Told ns us ks ts A0 A1 B0 B1 L c0 c1 d0 d1 lc W (hm.below hW) (hm2.below hW) h1 h2 (by omega) (by omega) hL)
  have HRes : Hid (tres ns us ks ts x y = match rd ns us ks ts x y with
    | none => ([], 4)
    | some k => match tab ns us ks ts k x y with
      | none => ([], 3)
      | some xs => (xs, 0)) := Lib.hid rfl
  have HRI : Hid (rdI ns us ks ts x y = oI (rd ns us ks ts x y)) := Lib.hid (by unfold rdI oI; rfl)
  have HLn : Hid ((bdL ns us ks ts 16).length = 17) := Lib.hid (by rw [bdL_length])
  clear hb0 hb1 hk0 hk1 hm hm2 h1 h2 hc
  generalize tres ns us ks ts x y = R at *
  obtain ⟨R1, R2⟩ := R
  dsimp only
  go_enter Tryz.func22, Tryz.ntmps22
  go_upto_region 1 with fail
  generalize World.alloc (w.alloc _) _ = W at *
  have k0 := HK0.out.cell
  have k1 := HK1.out.cell
  have l0 := HK0.out.lt
  have l1 := HK1.out.lt
  go_wp2_with fail
  refine (HC.out _ HB.out).mono ?_
  rintro e w1 ⟨rfl, hb⟩
  have HB1 := Lib.hid (bthen HB.out hb)
  have HK2 := Lib.hid (HK0.out.below hb HK0.out.lt)
  have HK3 := Lib.hid (HK1.out.below hb HK1.out.lt)
  clear hb k0 k1 l0 l1
  have k0 := HK2.out.cell
  have k1 := HK3.out.cell
  have l0 := HK2.out.lt
  have l1 := HK3.out.lt
  go_wp2_with fail
  refine (HNew.out _ HB1.out).mono ?_
  rintro e w2 ⟨vL, rfl, hL, hb⟩
  obtain ⟨L, lc, rfl⟩ := hL.opn
  rw [HLn.out] at hL ⊢
  have HB2 := Lib.hid (bthen HB1.out hb)
  have HK4 := Lib.hid (HK2.out.below hb HK2.out.lt)
  have HK5 := Lib.hid (HK3.out.below hb HK3.out.lt)
  have HL := Lib.hid hL
  clear hb k0 k1 l0 l1 hL
  have HRo2 := Lib.hid (HRo.out _ _ HL.out)
  rw [HRI.out] at HRo2
  go_wp2_with fail
  refine HRo2.out.mono ?_
  rintro e w3 ⟨rfl, rfl⟩
  cases hrd : rd ns us ks ts x y with
  | none =>
    have HE : Hid ((R1, R2) = (([] : List Nd), (4 : Int))) := Lib.hid (by rw [HRes.out, hrd])
    obtain ⟨rfl, rfl⟩ : R1 = [] ∧ R2 = 4 := by have := HE.out; injection this with a1 a2; exact ⟨a1, a2⟩
    rw [show oI none = -1 from rfl]
    clear hrd HRes HE
    go_wp2
    go_ret2
    exact ⟨_, rfl, Ow.nil _ _, HB2.out⟩
  | some k =>
    have HR2 : Hid ((R1, R2) = match tab ns us ks ts k x y with
      | none => (([] : List Nd), (3 : Int))
      | some xs => (xs, 0)) := Lib.hid (by rw [HRes.out, hrd])
    rw [show oI (some k) = (k : Int) from rfl]
    have hge : decide ((k : Int) < 0) = false := decide_eq_false (by omega)
    have HRd := Lib.hid hrd
    clear hrd HRes
    have HT2 := Lib.hid (HTo.out L lc _ HB2.out HL.out)
    have k0 := HK4.out.cell
    have k1 := HK5.out.cell
    have l0 := HK4.out.lt
    have l1 := HK5.out.lt
    go_wp2_with fail
    refine HT2.out.mono ?_
    rintro e w4 ⟨vt, T, rfl, hT, htt, hb⟩
    obtain ⟨At, ct, rfl⟩ := hT.opn
    have HB4 := Lib.hid (bthen HB2.out hb)
    have HTk := Lib.hid (htt x y k hx hy HRd.out)
    obtain ⟨b6, o6, b7, o7, cr, Ae, ce, e6, hb6, hc6, hb7, hc7, hse, hke⟩ := hT.at_ hx hy
    subst e6
    rw [HTk.out] at hc7 hse
    clear hb hT htt hke k0 k1 l0 l1
    cases htab : tab ns us ks ts k x y with
    | none =>
      obtain ⟨rfl, rfl⟩ : R1 = [] ∧ R2 = 3 := by have := HR2.out; rw [htab] at this; injection this with a1 a2; exact ⟨a1, a2⟩
      rw [htab] at hc7
      simp only [Option.getD_none, List.length_nil] at hc7
      clear HR2 htab hse HTk
      go_wp2
      go_ret2
      exact ⟨_, rfl, Ow.nil _ _, HB4.out⟩
    | some xs =>
      obtain ⟨rfl, rfl⟩ : R1 = xs ∧ R2 = 0 := by have := HR2.out; rw [htab] at this; injection this with a1 a2; exact ⟨a1, a2⟩
      have hl := tab_len k htab
      rw [htab] at hc7 hse
      simp only [Option.getD_some] at hc7 hse
      have HOwn := Lib.hid (spec_l02Own _ R1 w4 hse (by omega))
      have hne : (((R1.length : Nat) : Int) == 0) = false := beq_eq_false_iff_ne.2 (by omega)
      have HLl := Lib.hid hl
      clear HR2 htab hse HTk hl
      go_wp2_with fail
      refine HOwn.out.mono ?_
      rintro e w5 ⟨u, rfl, ho, hb⟩
      obtain ⟨A5, c5, rfl⟩ := ho.opn
      have HO5 := Lib.hid (ho.mono HB4.out.size)
      have HB5 := Lib.hid (bthen HB4.out hb)
      clear ho hb
      go_wp2
      go_ret2
      exact ⟨_, rfl, HO5.out, HB5.out⟩
end Go.Proofs.YtnolbgdbboiehaaGreat

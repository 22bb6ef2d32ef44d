/- Joined of several texts: 07d, 07e, 07h, 07i. -/
import Derived.Test.YtnolbgdbboiehaaGreatSA
import Derived.Test.YtnolbgdbboiehaaGreatSB
import Derived.StillTailTactics
import Derived.Deep.RegionLaw
namespace Go.Proofs.YtnolbgdbboiehaaGreat
open Go.RowKit
set_option linter.unusedVariables false
set_option linter.unusedSimpArgs false
/- Contracts of chapter 7, of the reference: atoms, forth, back. -/
theorem q_l01Bit {m i : Nat} (hm : m < 9223372036854775808) (hi : i ≤ 63) (W : World) (n : Nat) :
    Calls Tryz.prog 98 #[.int .i64 m, .int .i64 i] (W.drewN n) fun e w'' => e = .returned (.bool (m.testBit i)) ∧ ∃ q, w'' = W.drewN q :=
  (spec_l01Bit m i _ hm hi).mono fun e w' hh => ⟨hh.1, n, hh.2.symm⟩
set_option maxRecDepth 100000 in
theorem spec_l07Atoms (n k : Int) (A0 B0 : Option Addr) (a0 b0 c0 d0 : Nat) (v u : Value) (us ts : List Nat) (x y : Nat) (w : World) (h : Sl cI w v (li us)) (h' : Sl cI w u (li ts)) (hl : us.length = 6) (hl' : ts.length = 6)
    (hb : ∀ i, us.getD i 0 < 256) (hb' : ∀ i, ts.getD i 0 < 256) (hx : x ≤ 60) (hy : y ≤ 60) :
    Calls Tryz.prog 201 #[.agg #[.int .i64 n, .slice A0 a0 c0, v], .agg #[.int .i64 k, .slice B0 b0 d0, u], .int .i64 x, .int .i64 y] w fun e w' => e = .returned (.bool (atm us ts x y)) ∧ Below w.heap.size w w' := by
  obtain ⟨A, c, rfl⟩ := h.opn
  obtain ⟨B, d, rfl⟩ := h'.opn
  have HL := Lib.hid (show (li us).length = 6 by rw [li_length, hl])
  have HL' := Lib.hid (show (li ts).length = 6 by rw [li_length, hl'])
  rw [HL.out] at h ⊢
  rw [HL'.out] at h' ⊢
  have HU := Lib.hid hb
  have HU' := Lib.hid hb'
  have hb0 := below_alloc' w (.cells #[.int .i64 n, .slice A0 a0 c0, .slice A 6 c] 28)
  have hk0 := Blk.new w 28 #[.int .i64 n, .slice A0 a0 c0, .slice A 6 c]
  have hb1 := below_alloc' (w.alloc (.cells #[.int .i64 n, .slice A0 a0 c0, .slice A 6 c] 28)) (.cells #[.int .i64 k, .slice B0 b0 d0, .slice B 6 d] 28)
  have hk1 : Blk _ (w.heap.size + 1) _ _ := Blk.new' (w.alloc (.cells #[.int .i64 n, .slice A0 a0 c0, .slice A 6 c] 28)) 28 #[.int .i64 k, .slice B0 b0 d0, .slice B 6 d] (by simp)
  have HB := Lib.hid (bthen hb0 hb1)
  have HK0 := Lib.hid (hk0.below hb1 hk0.lt)
  have HK1 := Lib.hid hk1
  have HA := Lib.hid ((h.below hb0).below hb1)
  have HA' := Lib.hid ((h'.below hb0).below hb1)
  clear h h' hb0 hb1 hk0 hk1 hl hl' hb hb'
  go_enter Tryz.func201, Tryz.ntmps201
  go_upto_region 1 with fail
  generalize World.alloc (w.alloc _) _ = W at *
  go_wp2
  go_loopw [9] (fun i wr => ∃ j : Nat, j ≤ 6 ∧ i = .int .i64 j ∧ (∀ v < j, ((us.getD v 0).testBit x == (ts.getD v 0).testBit y) = true) ∧ Below W.heap.size W wr) (fun i _ => 6 - (intOf i).toNat)
  case atStart => exact ⟨0, Nat.zero_le _, rfl, fun i hi => by omega, Below.refl _ _⟩
  case round =>
    obtain ⟨j, hj, rfl, hh, hb⟩ := hrel
    have HH := Lib.hid hh
    clear hh
    have k0 : wr.cell? ⟨w.heap.size, 2, none⟩ = some (.slice A 6 c) := (HK0.out.below hb HK0.out.lt).cell 2
    have k1 : wr.cell? ⟨w.heap.size + 1, 2, none⟩ = some (.slice B 6 d) := (HK1.out.below hb HK1.out.lt).cell 2
    by_cases hlt : j < 6
    · have hlt1 : j < (li us).length := by rw [HL.out]; exact hlt
      have hlt2 : j < (li ts).length := by rw [HL'.out]; exact hlt
      obtain ⟨b, o, rfl, hbl, hc0⟩ := (HA.out.below hb).atI hlt1
      obtain ⟨b5, o5, rfl, hbl5, hc5⟩ := (HA'.out.below hb).atI hlt2
      rw [li_get] at hc0 hc5
      have hm := HU.out j
      have hq := HU'.out j
      have HBw := Lib.hid hb
      have HQ1 := Lib.hid (fun n => q_l01Bit (m := us.getD j 0) (i := x) (by omega) (by omega) wr n)
      have HQ2 := Lib.hid (fun n => q_l01Bit (m := ts.getD j 0) (i := y) (by omega) (by omega) wr n)
      have i1 : (j : Int) < 6 := by omega
      by_cases hz : (us.getD j 0).testBit x = (ts.getD j 0).testBit y
      · have HN : Hid (∀ v < j + 1, ((us.getD v 0).testBit x == (ts.getD v 0).testBit y) = true) := Lib.hid (fun v hv => (Nat.lt_or_ge v j).elim (fun h => HH.out v h) (fun h => (show v = j by omega) ▸ by rw [hz]; simp))
        have hd : ((us.getD j 0).testBit x != (ts.getD j 0).testBit y) = false := by rw [hz]; simp
        generalize (us.getD j 0).testBit x = e1 at *
        generalize (ts.getD j 0).testBit y = e2 at *
        generalize us.getD j 0 = m at *
        generalize ts.getD j 0 = q at *
        subst hz
        clear hd hb
        cases e1
        all_goals
          go_wp2
          go_quiet ((go_at_call 98; first | with_reducible exact HQ1.out _ | with_reducible exact HQ2.out _))
          go_wp2
          go_roundw
          case rel => exact ⟨j + 1, by omega, by go_num, HN.out, below_drewN HBw.out _⟩
          case measure => simp [intOf]; omega
      · have EE : Hid (atm us ts x y = false) := Lib.hid (by
          unfold atm
          rw [← Bool.not_eq_true, List.all_eq_true]
          intro h
          exact hz (by simpa using h j (List.mem_range.2 hlt)))
        have hd : ((us.getD j 0).testBit x != (ts.getD j 0).testBit y) = true := bne_iff_ne.2 hz
        generalize (us.getD j 0).testBit x = e1 at *
        generalize (ts.getD j 0).testBit y = e2 at *
        generalize us.getD j 0 = m at *
        generalize ts.getD j 0 = q at *
        clear hd hb
        cases e1 <;> cases e2
        all_goals first | exact absurd rfl hz | skip
        all_goals
          clear hz
          go_wp2
          go_quiet ((go_at_call 98; first | with_reducible exact HQ1.out _ | with_reducible exact HQ2.out _))
          go_wp2
          go_ret
          exact ⟨by rw [EE.out]; rfl, bthen HB.out (below_drewN HBw.out _)⟩
    · have EE : Hid (atm us ts x y = true) := Lib.hid (by
        unfold atm
        rw [List.all_eq_true]
        intro v hv
        exact HH.out v (by rw [List.mem_range] at hv; omega))
      have HBw := Lib.hid hb
      obtain rfl : j = 6 := by omega
      clear hb
      go_wp2
      go_ret
      exact ⟨by rw [EE.out]; rfl, bthen HB.out HBw.out⟩
theorem spec_l07Forth (v : Value) (lk : List Nat) (a b : Nat) (w : World) (h : Sl cI w v (li lk)) (h8 : lk.length ≤ 8) (hlt : ∀ x ∈ lk, x < 2 ^ 8) (ha : a < 256) (hb : b < 256) :
    Calls Tryz.prog 202 #[v, .int .i64 a, .int .i64 b] w fun e w' => e = .returned (.bool (frt lk a b)) ∧ w = w' := by
  obtain ⟨A, c, rfl⟩ := h.opn
  have HL := Lib.hid (li_length lk)
  rw [HL.out] at h ⊢
  have HX := Lib.hid (getD_lt hlt)
  clear hlt
  go_enter Tryz.func202, Tryz.ntmps202
  go_wp2
  go_loop [7] (fun i => ∃ j : Nat, j ≤ lk.length ∧ i = .int .i64 j ∧ (∀ s < j, (!(a.testBit s && decide (lk.getD s 0 &&& b = 0))) = true)) (fun i => lk.length - (intOf i).toNat)
  case atStart => exact ⟨0, Nat.zero_le _, rfl, fun i hi => by omega⟩
  case round =>
    obtain ⟨j, hj, rfl, hh⟩ := hrel
    have HH := Lib.hid hh
    clear hh
    by_cases hlt : j < lk.length
    · have hlt1 : j < (li lk).length := by rw [HL.out]; exact hlt
      obtain ⟨b1, o, rfl, hbl, hc0⟩ := h.atI hlt1
      rw [li_get] at hc0
      have hm := HX.out j
      have e2 := i64_and_nat (lk.getD j 0) b (by omega) (by omega)
      have HN : Hid ((!(a.testBit j && decide (lk.getD j 0 &&& b = 0))) = true → ∀ s < j + 1, (!(a.testBit s && decide (lk.getD s 0 &&& b = 0))) = true) := Lib.hid (fun hj s hs => (Nat.lt_or_ge s j).elim (fun h => HH.out s h) (fun h => (show s = j by omega) ▸ hj))
      have HF : Hid ((!(a.testBit j && decide (lk.getD j 0 &&& b = 0))) = false → frt lk a b = false) := Lib.hid (fun hj => by
        unfold frt
        rw [← Bool.not_eq_true, List.all_eq_true]
        intro h
        have := h j (List.mem_range.2 hlt)
        rw [hj] at this
        cases this)
      generalize lk.getD j 0 &&& b = r at *
      generalize lk.getD j 0 = m at *
      go_wp2_with fail
      refine (spec_l01Bit a j _ (by omega) (by omega)).mono ?_
      rintro e w1 ⟨rfl, rfl⟩
      cases ht : a.testBit j
      · rw [ht] at HN HF
        replace HN := Lib.hid (HN.out rfl)
        clear ht HF
        go_wp2
        go_round
        case rel => exact ⟨j + 1, by omega, by go_num, HN.out⟩
        case measure => simp [intOf]; omega
      · rw [ht] at HN HF
        clear ht
        by_cases hz : r = 0
        · have hd : ((r : Int) == 0) = true := by rw [hz]; rfl
          have EE := Lib.hid (HF.out (by rw [hz]; rfl))
          clear HN HF hz
          go_wp2
          go_ret
          exact ⟨by rw [EE.out]; rfl, rfl⟩
        · have hd : ((r : Int) == 0) = false := by rw [beq_eq_false_iff_ne]; omega
          replace HN := Lib.hid (HN.out (by rw [decide_eq_false hz]; rfl))
          clear HF hz
          go_wp2
          go_round
          case rel => exact ⟨j + 1, by omega, by go_num, HN.out⟩
          case measure => simp [intOf]; omega
    · have EE : Hid (frt lk a b = true) := Lib.hid (by
        unfold frt
        rw [List.all_eq_true]
        intro s hs
        exact HH.out s (by rw [List.mem_range] at hs; omega))
      obtain rfl : j = lk.length := by omega
      go_wp2
      go_ret
      exact ⟨by rw [EE.out]; rfl, rfl⟩
theorem spec_l07Back (v : Value) (lk : List Nat) (a b : Nat) (w : World) (h : Sl cI w v (li lk)) (h8 : lk.length ≤ 8) (hlt : ∀ x ∈ lk, x < 2 ^ 8) (ha : a < 256) (hb : b < 256) :
    Calls Tryz.prog 203 #[v, .int .i64 a, .int .i64 b] w fun e w' => e = .returned (.bool (bck lk a b)) ∧ w = w' := by
  obtain ⟨A, c, rfl⟩ := h.opn
  have HL := Lib.hid (li_length lk)
  rw [HL.out] at h ⊢
  have HX := Lib.hid (getD_lt hlt)
  have HI := Lib.hid (imgTo_lt hlt a)
  clear hlt
  go_enter Tryz.func203, Tryz.ntmps203
  go_wp2
  go_loop [7, 8] (fun t i => ∃ j : Nat, j ≤ lk.length ∧ i = .int .i64 j ∧ t = .int .i64 (imgTo lk a j : Nat)) (fun _ i => lk.length - (intOf i).toNat)
  case atStart => exact ⟨0, Nat.zero_le _, rfl, rfl⟩
  case round =>
    obtain ⟨j, hj, rfl, rfl⟩ := hrel
    have hq := HI.out j
    by_cases hlt : j < lk.length
    · have hlt1 : j < (li lk).length := by rw [HL.out]; exact hlt
      obtain ⟨b1, o, rfl, hbl, hc0⟩ := h.atI hlt1
      rw [li_get] at hc0
      have hm := HX.out j
      have HS : Hid (imgTo lk a (j + 1) = imgTo lk a j ||| if a.testBit j then lk.getD j 0 else 0) := Lib.hid rfl
      generalize imgTo lk a j = q at *
      generalize lk.getD j 0 = m at *
      have e2 := i64_or_nat q m (by omega) (by omega)
      go_wp2_with fail
      refine (spec_l01Bit a j _ (by omega) (by omega)).mono ?_
      rintro e w1 ⟨rfl, rfl⟩
      cases ht : a.testBit j
      · rw [if_neg (by rw [ht]; decide), Nat.or_zero] at HS
        clear ht
        go_wp2
        go_round
        case rel => exact ⟨j + 1, by omega, by go_num, by rw [HS.out]⟩
        case measure => simp [intOf]; omega
      · rw [if_pos ht] at HS
        clear ht
        go_wp2
        go_round
        case rel => exact ⟨j + 1, by omega, by go_num, by rw [HS.out]⟩
        case measure => simp [intOf]; omega
    · obtain rfl : j = lk.length := by omega
      have EE : Hid (bck lk a b = decide (andnot b (imgTo lk a lk.length) = 0)) := Lib.hid rfl
      generalize imgTo lk a lk.length = q at *
      have e2 := i64_andNot_nat b q (by omega) (by omega)
      have hd : decide (andnot b q = 0) = ((andnot b q : Int) == 0) := by rw [Bool.eq_iff_iff, decide_eq_true_eq, beq_iff_eq]; omega
      have HD := Lib.hid hd
      clear hd
      go_wp2
      go_ret
      exact ⟨by rw [EE.out, HD.out]; rfl, rfl⟩
/- Contracts of chapter 7, of the reference: start and step. -/
theorem lnk_succ (n k : Nat) (p : Nat → Nat → Bool) : li (lnk (n + 1) k p) = li (lnk n k p) ++ [((msk (p n) k : Nat) : Int)] := by
  unfold lnk li
  rw [List.range_succ, List.map_append, List.map_append]
  rfl
set_option maxRecDepth 100000 in
theorem spec_l07Start (ns us ks ts : List Nat) (A0 A1 B0 B1 : Option Addr) (c0 c1 d0 d1 : Nat) (w : World) (hm : Mdl w (.slice A0 ns.length c0) (.slice A1 6 c1) ns us) (hm2 : Mdl w (.slice B0 ks.length d0) (.slice B1 6 d1) ks ts) (h1 : MdN ns us) (h2 : MdN ks ts) :
    Calls Tryz.prog 126 #[.agg #[.int .i64 ns.length, .slice A0 ns.length c0, .slice A1 6 c1], .agg #[.int .i64 ks.length, .slice B0 ks.length d0, .slice B1 6 d1]] w
      fun e w' => ∃ A c, e = .returned (.slice A ns.length c) ∧ Ow cI 2 w.heap.size w' (.slice A ns.length c) (li (lnk ns.length ks.length (atm us ts))) ∧ Below w.heap.size w w' := by
  have h8 := h1.r.1
  have hk8 := h2.r.1
  have hb0 := below_alloc' w (.cells #[.int .i64 ns.length, .slice A0 ns.length c0, .slice A1 6 c1] 28)
  have hk0 := Blk.new w 28 #[.int .i64 ns.length, .slice A0 ns.length c0, .slice A1 6 c1]
  have hb1 := below_alloc' (w.alloc (.cells #[.int .i64 ns.length, .slice A0 ns.length c0, .slice A1 6 c1] 28)) (.cells #[.int .i64 ks.length, .slice B0 ks.length d0, .slice B1 6 d1] 28)
  have hk1 : Blk _ (w.heap.size + 1) _ _ := Blk.new' (w.alloc (.cells #[.int .i64 ns.length, .slice A0 ns.length c0, .slice A1 6 c1] 28)) 28 #[.int .i64 ks.length, .slice B0 ks.length d0, .slice B1 6 d1] (by simp)
  have HB := Lib.hid (bthen hb0 hb1)
  have HK0 := Lib.hid (hk0.below hb1 hk0.lt)
  have HK1 := Lib.hid hk1
  have HN := Lib.hid (hm.a)
  have HKs := Lib.hid (hm2.a)
  have H1 := Lib.hid h1
  have H2 := Lib.hid h2
  have LN := Lib.hid (li_length ns)
  have LK := Lib.hid (li_length ks)
  have HT := Lib.hid (fun W (hW : Below w.heap.size w W) (x y : Nat) (hx : x ≤ 60) (hy : y ≤ 60) => spec_l07Atoms ns.length ks.length A0 B0 ns.length ks.length c0 d0 _ _ us ts x y W (hm.u.below hW) (hm2.u.below hW) h1.l h2.l h1.u256 h2.u256 hx hy)
  clear hb0 hb1 hk0 hk1 hm hm2 h1 h2
  obtain ⟨p, hp⟩ : ∃ p, p = atm us ts := ⟨_, rfl⟩
  rw [← hp]
  have EP := Lib.hid hp
  clear hp
  go_enter Tryz.func126, Tryz.ntmps126
  go_upto_region 1 with fail
  generalize World.alloc (w.alloc _) _ = W at *
  go_wp2
  go_loopw [5, 6] (fun v i wr => ∃ j : Nat, j ≤ ns.length ∧ i = .int .i64 j ∧ Ow cI 2 W.heap.size wr v (li (lnk j ks.length p)) ∧ Below W.heap.size W wr) (fun _ i _ => ns.length - (intOf i).toNat)
  case atStart => exact ⟨0, Nat.zero_le _, rfl, Ow.lit [] rfl rfl (Nat.le_refl _), (Below.refl _ _).alloc (Nat.le_refl _) _⟩
  case round =>
    obtain ⟨x, hx, rfl, ho, hb⟩ := hrel
    obtain ⟨Ao, co, rfl⟩ := ho.opn
    have hLx : (li (lnk x ks.length p)).length = x := by rw [li_length, lnk_length]
    rw [hLx] at ho ⊢
    clear hLx
    have hk2 := HK0.out.below hb HK0.out.lt
    have k2 := hk2.cell
    have HO := Lib.hid ho
    have HBx := Lib.hid hb
    by_cases hxn : x < ns.length
    · clear ho hb hk2
      go_wp2
      clear k2
      go_loopw [7, 8] (fun t i wq => ∃ j : Nat, j ≤ ks.length ∧ i = .int .i64 j ∧ t = .int .i64 (msk (p x) j : Nat) ∧ Ow cI 2 W.heap.size wq (.slice Ao x co) (li (lnk x ks.length p)) ∧ Below W.heap.size W wq) (fun _ i _ => ks.length - (intOf i).toNat)
      case atStart => exact ⟨0, Nat.zero_le _, rfl, rfl, HO.out, HBx.out⟩
      case round =>
        obtain ⟨y, hy, rfl, rfl, ho, hb⟩ := hrel
        clear HO HBx
        have HO := Lib.hid ho
        have HBy := Lib.hid hb
        have hk0 := HK0.out.below hb HK0.out.lt
        have hk1 := HK1.out.below hb HK1.out.lt
        have k0 := hk0.cell
        have k1 := hk1.cell
        have l0 := hk0.lt
        have l1 := hk1.lt
        clear ho hb hk0 hk1
        by_cases hyk : y < ks.length
        · have HP : Hid (p x y = atm us ts x y) := Lib.hid (by rw [EP.out])
          have HS : Hid (msk (p x) (y + 1) = msk (p x) y ||| if p x y = true then 2 ^ y else 0) := Lib.hid rfl
          have hq := msk_bound (p x) hy hk8
          generalize msk (p x) y = q at *
          rw [HP.out] at HS
          go_wp2_with fail
          refine (HT.out _ (bthen HB.out HBy.out) x y (by omega) (by omega)).mono ?_
          rintro e w3 ⟨rfl, hb⟩
          have HO3 := Lib.hid (HO.out.below hb)
          have HB3 := Lib.hid (HBy.out.trans (hb.mono HBy.out.size))
          clear hb k0 k1 l0 l1 HP
          cases ha : atm us ts x y
          · rw [ha] at HS
            rw [if_neg (by decide), Nat.or_zero] at HS
            clear ha
            go_wp2
            go_roundw
            case rel => exact ⟨y + 1, by omega, by go_num, by rw [HS.out], HO3.out, HB3.out⟩
            case measure => simp [intOf]; omega
          · rw [ha] at HS
            rw [if_pos rfl] at HS
            have e2 := i64_or_nat q (2 ^ y) (by omega) (two_pow_lt (by omega))
            rw [← cast_two_pow] at e2
            clear ha
            go_wp2_with fail
            refine (spec_l01One _ _ (by omega) (by omega)).mono ?_
            rintro e w9 ⟨rfl, rfl⟩
            rw [Int.toNat_natCast]
            go_wp2
            go_roundw
            case rel => exact ⟨y + 1, by omega, by go_num, by rw [HS.out], HO3.out, HB3.out⟩
            case measure => simp [intOf]; omega
        · obtain rfl : y = ks.length := by omega
          have hsz := HBy.out.size
          have HL := Lib.hid (show (li (lnk x ks.length p)).length = x by rw [li_length, lnk_length])
          have HE := Lib.hid (lnk_succ x ks.length p)
          generalize msk (p x) ks.length = q at *
          generalize li (lnk x ks.length p) = xs at *
          clear k0 l0 l1
          go_wp2_with (at_builtin; refine stopHere ?_)
          refine goHere ?_
          refine ap_one (K := cI) _ ty_int64 rfl _ _ rfl (xs := xs) rfl HO.out (q : Int) rfl rfl (by rw [HL.out]; omega) hsz ?_
          intro v1 w1 ho1 hg1 hb1 hat1
          have O1 := Lib.hid ho1
          have HB1 := Lib.hid (HBy.out.trans hb1)
          clear ho1 hg1 hb1 hat1 k1
          go_wp2
          go_roundw
          case rel => exact ⟨x + 1, by omega, by go_num, by rw [HE.out]; exact O1.out, HB1.out⟩
          case measure => simp [intOf]; omega
    · obtain rfl : x = ns.length := by omega
      have hs := ho.mono HB.out.size
      have HSS := Lib.hid hs
      clear ho hs hb hk2
      go_wp2
      go_ret
      exact ⟨_, _, rfl, HSS.out, bthen HB.out HBx.out⟩
set_option maxRecDepth 100000 in
theorem spec_l07Step (ns us ks ts lk : List Nat) (A0 A1 B0 B1 : Option Addr) (c0 c1 d0 d1 : Nat) (v : Value) (w : World) (hm : Mdl w (.slice A0 ns.length c0) (.slice A1 6 c1) ns us) (hm2 : Mdl w (.slice B0 ks.length d0) (.slice B1 6 d1) ks ts) (h1 : MdN ns us) (h2 : MdN ks ts) (h : Sl cI w v (li lk)) (hl : lk.length = ns.length) (hlt : ∀ x ∈ lk, x < 2 ^ 8) :
    Calls Tryz.prog 127 #[.agg #[.int .i64 ns.length, .slice A0 ns.length c0, .slice A1 6 c1], .agg #[.int .i64 ks.length, .slice B0 ks.length d0, .slice B1 6 d1], v] w
      fun e w' => ∃ A c, e = .returned (.slice A ns.length c) ∧ Ow cI 2 w.heap.size w' (.slice A ns.length c) (li (lnk ns.length ks.length (hol ns us ks ts lk))) ∧ Below w.heap.size w w' := by
  have h8 := h1.r.1
  have hk8 := h2.r.1
  have hb0 := below_alloc' w (.cells #[.int .i64 ns.length, .slice A0 ns.length c0, .slice A1 6 c1] 28)
  have hk0 := Blk.new w 28 #[.int .i64 ns.length, .slice A0 ns.length c0, .slice A1 6 c1]
  have hb1 := below_alloc' (w.alloc (.cells #[.int .i64 ns.length, .slice A0 ns.length c0, .slice A1 6 c1] 28)) (.cells #[.int .i64 ks.length, .slice B0 ks.length d0, .slice B1 6 d1] 28)
  have hk1 : Blk _ (w.heap.size + 1) _ _ := Blk.new' (w.alloc (.cells #[.int .i64 ns.length, .slice A0 ns.length c0, .slice A1 6 c1] 28)) 28 #[.int .i64 ks.length, .slice B0 ks.length d0, .slice B1 6 d1] (by simp)
  have HB := Lib.hid (bthen hb0 hb1)
  have HK0 := Lib.hid (hk0.below hb1 hk0.lt)
  have HK1 := Lib.hid hk1
  have HN := Lib.hid (hm.a)
  have HKs := Lib.hid (hm2.a)
  have H1 := Lib.hid h1
  have H2 := Lib.hid h2
  have LN := Lib.hid (li_length ns)
  have LK := Lib.hid (li_length ks)
  have HT := Lib.hid (fun W (hW : Below w.heap.size w W) (x y : Nat) (hx : x ≤ 60) (hy : y ≤ 60) => spec_l07Atoms ns.length ks.length A0 B0 ns.length ks.length c0 d0 _ _ us ts x y W (hm.u.below hW) (hm2.u.below hW) h1.l h2.l h1.u256 h2.u256 hx hy)
  have HF := Lib.hid (fun W (hW : Below w.heap.size w W) (a b : Nat) (ha : a < 256) (hb : b < 256) => spec_l07Forth v lk a b W (h.below hW) (by omega) hlt ha hb)
  have HG := Lib.hid (fun W (hW : Below w.heap.size w W) (a b : Nat) (ha : a < 256) (hb : b < 256) => spec_l07Back v lk a b W (h.below hW) (by omega) hlt ha hb)
  clear h hlt hl
  clear hb0 hb1 hk0 hk1 hm hm2 h1 h2
  obtain ⟨p, hp⟩ : ∃ p, p = hol ns us ks ts lk := ⟨_, rfl⟩
  rw [← hp]
  have EP := Lib.hid hp
  clear hp
  go_enter Tryz.func127, Tryz.ntmps127
  go_upto_region 1 with fail
  generalize World.alloc (w.alloc _) _ = W at *
  go_wp2
  go_loopw [7, 8] (fun v i wr => ∃ j : Nat, j ≤ ns.length ∧ i = .int .i64 j ∧ Ow cI 2 W.heap.size wr v (li (lnk j ks.length p)) ∧ Below W.heap.size W wr) (fun _ i _ => ns.length - (intOf i).toNat)
  case atStart => exact ⟨0, Nat.zero_le _, rfl, Ow.lit [] rfl rfl (Nat.le_refl _), (Below.refl _ _).alloc (Nat.le_refl _) _⟩
  case round =>
    obtain ⟨x, hx, rfl, ho, hb⟩ := hrel
    obtain ⟨Ao, co, rfl⟩ := ho.opn
    have hLx : (li (lnk x ks.length p)).length = x := by rw [li_length, lnk_length]
    rw [hLx] at ho ⊢
    clear hLx
    have hk2 := HK0.out.below hb HK0.out.lt
    have k2 := hk2.cell
    have HO := Lib.hid ho
    have HBx := Lib.hid hb
    by_cases hxn : x < ns.length
    · clear ho hb hk2
      go_wp2
      clear k2
      go_loopw [9, 10] (fun t i wq => ∃ j : Nat, j ≤ ks.length ∧ i = .int .i64 j ∧ t = .int .i64 (msk (p x) j : Nat) ∧ Ow cI 2 W.heap.size wq (.slice Ao x co) (li (lnk x ks.length p)) ∧ Below W.heap.size W wq) (fun _ i _ => ks.length - (intOf i).toNat)
      case atStart => exact ⟨0, Nat.zero_le _, rfl, rfl, HO.out, HBx.out⟩
      case round =>
        obtain ⟨y, hy, rfl, rfl, ho, hb⟩ := hrel
        clear HO HBx
        have HO := Lib.hid ho
        have HBy := Lib.hid hb
        have hk0 := HK0.out.below hb HK0.out.lt
        have hk1 := HK1.out.below hb HK1.out.lt
        have k0 := hk0.cell
        have k1 := hk1.cell
        have l0 := hk0.lt
        have l1 := hk1.lt
        clear ho hb hk0 hk1
        by_cases hyk : y < ks.length
        · have HP : Hid (p x y = (atm us ts x y && (frt lk (ns.getD x 0) (ks.getD y 0) && bck lk (ns.getD x 0) (ks.getD y 0)))) := Lib.hid (by rw [EP.out]; rfl)
          have HS : Hid (msk (p x) (y + 1) = msk (p x) y ||| if p x y = true then 2 ^ y else 0) := Lib.hid rfl
          have hq := msk_bound (p x) hy hk8
          generalize msk (p x) y = q at *
          rw [HP.out] at HS
          have hx' : x < (li ns).length := by rw [LN.out]; exact hxn
          have hy' : y < (li ks).length := by rw [LK.out]; exact hyk
          obtain ⟨b, o, rfl, hbl, hc0⟩ := (HN.out.below (bthen HB.out HBy.out)).atI hx'
          obtain ⟨b5, o5, rfl, hbl5, hc5⟩ := (HKs.out.below (bthen HB.out HBy.out)).atI hy'
          rw [li_get] at hc0 hc5
          have ha2 := H1.out.n256 x
          have hb2 := H2.out.n256 y
          generalize ns.getD x 0 = a at *
          generalize ks.getD y 0 = bb at *
          go_wp2
          go_quiet (fail)
          have HO2 := Lib.hid (fun q => HO.out.below (below_drewN (Below.refl _ _) q))
          have HB2 := Lib.hid (fun q => below_drewN HBy.out q)
          clear hc0 hc5
          go_wp2_with fail
          refine (HT.out _ (bthen HB.out (HB2.out _)) x y (by omega) (by omega)).mono ?_
          rintro e w3 ⟨rfl, hb⟩
          have HO3 := Lib.hid ((HO2.out _).below hb)
          have HB3 := Lib.hid ((HB2.out _).trans (hb.mono (HB2.out _).size))
          clear hb k0 k1 l0 l1 HO2 HB2 HP
          cases ha : atm us ts x y
          · rw [ha, Bool.false_and] at HS
            rw [if_neg (by decide), Nat.or_zero] at HS
            clear ha
            go_wp2
            go_roundw
            case rel => exact ⟨y + 1, by omega, by go_num, by rw [HS.out], HO3.out, HB3.out⟩
            case measure => simp [intOf]; omega
          · rw [ha, Bool.true_and] at HS
            clear ha
            go_wp2_with fail
            refine (HF.out _ (bthen HB.out HB3.out) a bb ha2 hb2).mono ?_
            rintro e w4 ⟨rfl, rfl⟩
            cases hf : frt lk a bb
            · rw [hf, Bool.false_and] at HS
              rw [if_neg (by decide), Nat.or_zero] at HS
              clear hf
              go_wp2
              go_roundw
              case rel => exact ⟨y + 1, by omega, by go_num, by rw [HS.out], HO3.out, HB3.out⟩
              case measure => simp [intOf]; omega
            · rw [hf, Bool.true_and] at HS
              clear hf
              go_wp2_with fail
              refine (HG.out _ (bthen HB.out HB3.out) a bb ha2 hb2).mono ?_
              rintro e w5 ⟨rfl, rfl⟩
              cases hg : bck lk a bb
              · rw [hg] at HS
                rw [if_neg (by decide), Nat.or_zero] at HS
                clear hg
                go_wp2
                go_roundw
                case rel => exact ⟨y + 1, by omega, by go_num, by rw [HS.out], HO3.out, HB3.out⟩
                case measure => simp [intOf]; omega
              · rw [hg] at HS
                rw [if_pos rfl] at HS
                have e2 := i64_or_nat q (2 ^ y) (by omega) (two_pow_lt (by omega))
                rw [← cast_two_pow] at e2
                clear hg
                go_wp2_with fail
                refine (spec_l01One _ _ (by omega) (by omega)).mono ?_
                rintro e w9 ⟨rfl, rfl⟩
                rw [Int.toNat_natCast]
                go_wp2
                go_roundw
                case rel => exact ⟨y + 1, by omega, by go_num, by rw [HS.out], HO3.out, HB3.out⟩
                case measure => simp [intOf]; omega
        · obtain rfl : y = ks.length := by omega
          have hsz := HBy.out.size
          have HL := Lib.hid (show (li (lnk x ks.length p)).length = x by rw [li_length, lnk_length])
          have HE := Lib.hid (lnk_succ x ks.length p)
          generalize msk (p x) ks.length = q at *
          generalize li (lnk x ks.length p) = xs at *
          clear k0 l0 l1
          go_wp2_with (at_builtin; refine stopHere ?_)
          refine goHere ?_
          refine ap_one (K := cI) _ ty_int64 rfl _ _ rfl (xs := xs) rfl HO.out (q : Int) rfl rfl (by rw [HL.out]; omega) hsz ?_
          intro v1 w1 ho1 hg1 hb1 hat1
          have O1 := Lib.hid ho1
          have HB1 := Lib.hid (HBy.out.trans hb1)
          clear ho1 hg1 hb1 hat1 k1
          go_wp2
          go_roundw
          case rel => exact ⟨x + 1, by omega, by go_num, by rw [HE.out]; exact O1.out, HB1.out⟩
          case measure => simp [intOf]; omega
    · obtain rfl : x = ns.length := by omega
      have hs := ho.mono HB.out.size
      have HSS := Lib.hid hs
      clear ho hs hb hk2
      go_wp2
      go_ret
      exact ⟨_, _, rfl, HSS.out, bthen HB.out HBx.out⟩
/- Contracts of chapter 7, of the reference: bounded. -/
/-- a row of headers that the call owns, each of which reads a list of numbers; no block of them is R -/
def OwI (B : Nat) (R : Option Nat) (w : World) (v : Value) (xss : List (List Int)) : Prop :=
  ∃ hs : List Hd, Ow cH 24 B w v hs ∧ (∀ r, R = some r → v.ownBlock ≠ some r ∧ r < w.heap.size) ∧ hs.length = xss.length ∧
    ∀ i (a : i < hs.length) (b : i < xss.length), Sl cI w hs[i].val xss[i] ∧ (hs[i].val.ownBlock = none ∨ (hs[i].val.ownBlock ≠ v.ownBlock ∧ ∀ k, hs[i].val.ownBlock = some k → k < w.heap.size ∧ R ≠ some k))
theorem OwI.sl2 {B : Nat} {R : Option Nat} {w : World} {v : Value} {xss : List (List Int)} (h : OwI B R w v xss) : Sl2 cI w v xss := by
  obtain ⟨hs, h1, -, h2, h3⟩ := h
  exact ⟨hs, h1.sl, h2, fun i a b => (h3 i a b).1⟩
theorem OwI.below {B : Nat} {R : Option Nat} {w w' : World} {v : Value} {xss : List (List Int)} (h : OwI B R w v xss) (hb : Below w.heap.size w w') : OwI B R w' v xss := by
  obtain ⟨hs, h1, h0, h2, h3⟩ := h
  refine ⟨hs, h1.below hb, fun r hr => ⟨(h0 r hr).1, Nat.lt_of_lt_of_le (h0 r hr).2 hb.size⟩, h2, fun i a b => ⟨(h3 i a b).1.below hb, ?_⟩⟩
  rcases (h3 i a b).2 with h | ⟨h, k⟩
  · exact .inl h
  · exact .inr ⟨h, fun j hj => ⟨Nat.lt_of_lt_of_le (k j hj).1 hb.size, (k j hj).2⟩⟩
theorem OwI.one {B B2 : Nat} {w : World} {A : Option Addr} {n c : Nat} {xs : List Int} (hu : Ow cI 2 B2 w (.slice A n c) xs) (hB : B ≤ w.heap.size) :
    OwI B none (w.alloc (.cells #[.slice A n c] 24)) (.slice (some ⟨w.heap.size, 0, none⟩) 1 1) [xs] := by
  refine ⟨[⟨A, n, c⟩], Ow.lit (K := cH) [⟨A, n, c⟩] rfl rfl hB, fun r hr => (by cases hr), rfl, fun i a b => ?_⟩
  have hi : i = 0 := by simp at a; omega
  subst hi
  refine ⟨hu.sl.alloc _, ?_⟩
  show (Value.slice A n c).ownBlock = none ∨ ((Value.slice A n c).ownBlock ≠ _ ∧ ∀ k, (Value.slice A n c).ownBlock = some k → _)
  cases hq : (Value.slice A n c).ownBlock with
  | none => exact .inl rfl
  | some k =>
    have := (hu.block k hq).2
    refine .inr ⟨?_, fun j hj => ?_⟩
    · intro e
      have e' : k = w.heap.size := by injection e
      omega
    · have e' : k = j := by injection hj
      exact ⟨by simp; omega, by simp⟩
/-- the block R is made behind -/
theorem OwI.mark {B : Nat} {w w' : World} {v : Value} {xss : List (List Int)} (h : OwI B none w v xss) (hb : Below w.heap.size w w') (r : Nat) (hr : w.heap.size ≤ r) (hr2 : r < w'.heap.size) : OwI B (some r) w' v xss := by
  obtain ⟨hs, h1, h0, h2, h3⟩ := h
  have hv := h1.block
  refine ⟨hs, h1.below hb, fun r' hr' => ?_, h2, fun i a b => ⟨(h3 i a b).1.below hb, ?_⟩⟩
  · injection hr' with e
    subst e
    refine ⟨fun e => ?_, hr2⟩
    have := (hv _ e).2
    omega
  · rcases (h3 i a b).2 with h | ⟨h, k⟩
    · exact .inl h
    · refine .inr ⟨h, fun j hj => ⟨Nat.lt_of_lt_of_le (k j hj).1 hb.size, fun e => ?_⟩⟩
      injection e with e
      have := (k j hj).1
      omega
theorem OwI.push {B : Nat} {R : Option Nat} {w : World} {v : Value} {xss : List (List Int)} {A : Option Addr} {n c : Nat} {xs : List Int} {B2 : Nat}
    (h : OwI B R w v xss) (hu : Ow cI 2 B2 w (.slice A n c) xs) (hB : ∀ k, v.ownBlock = some k → k < B2) (hR : ∀ r, R = some r → r < B2) :
    ∃ hs : List Hd, Ow cH 24 B w v hs ∧ hs.length = xss.length ∧
      ∀ w' v', Ow cH 24 B w' v' (hs ++ [⟨A, n, c⟩]) → (w.alloc (.cells #[.slice A n c] 24)).grownBy w' v.ownBlock →
        (v'.ownBlock = v.ownBlock ∨ v'.ownBlock = some (w.heap.size + 1)) → OwI B R w' v' (xss ++ [xs]) := by
  obtain ⟨hs, h1, h0, h2, h3⟩ := h
  have hlt : ∀ k, (Value.slice A n c).ownBlock = some k → B2 ≤ k ∧ k < w.heap.size := hu.block
  refine ⟨hs, h1, h2, fun w' v' ho hg hat => ?_⟩
  have hsz : w.heap.size + 1 ≤ w'.heap.size := by have := hg.size; simp at this; omega
  have key : ∀ (u : Value) (ys : List Int), Sl cI w u ys → (u.ownBlock = none ∨ (u.ownBlock ≠ v.ownBlock ∧ ∀ k, u.ownBlock = some k → k < w.heap.size ∧ R ≠ some k)) →
      Sl cI w' u ys ∧ (u.ownBlock = none ∨ (u.ownBlock ≠ v'.ownBlock ∧ ∀ k, u.ownBlock = some k → k < w'.heap.size ∧ R ≠ some k)) := by
    intro u ys hu hn
    refine ⟨(hu.alloc _).grown hg (hn.imp id And.left), ?_⟩
    rcases hn with hn | ⟨hn, hk⟩
    · exact .inl hn
    · refine .inr ⟨?_, fun k e => ⟨by have := (hk k e).1; omega, (hk k e).2⟩⟩
      rcases hat with e | e
      · rw [e]; exact hn
      · rw [e]; intro e2; have := (hk _ e2).1; omega
  refine ⟨hs ++ [⟨A, n, c⟩], ho, fun r hr => ⟨?_, by have := (h0 r hr).2; omega⟩, by simp [h2], fun i a b => ?_⟩
  · rcases hat with e | e
    · rw [e]; exact (h0 r hr).1
    · rw [e]; intro e2; injection e2 with e2; have := (h0 r hr).2; omega
  by_cases hi : i < hs.length
  · rw [List.getElem_append_left hi, List.getElem_append_left (by omega)]
    exact key _ _ (h3 i hi (by omega)).1 (h3 i hi (by omega)).2
  · have e : i = hs.length := by simp at a; omega
    subst e
    have e2 : (xss ++ [xs])[hs.length] = xs := by
      rw [List.getElem_append_right (by omega)]; simp [h2]
    rw [e2]
    have e3 : (hs ++ [(⟨A, n, c⟩ : Hd)])[hs.length] = ⟨A, n, c⟩ := by simp
    rw [e3]
    refine key _ _ hu.sl ?_
    show (Value.slice A n c).ownBlock = none ∨ ((Value.slice A n c).ownBlock ≠ _ ∧ ∀ k, (Value.slice A n c).ownBlock = some k → _)
    cases hq : (Value.slice A n c).ownBlock with
    | none => exact .inl rfl
    | some k =>
      have hk := hlt k hq
      refine .inr ⟨?_, fun j hj => ?_⟩
      · intro e
        have := hB k e.symm
        omega
      · have e' : k = j := by injection hj
        subst e'
        exact ⟨hk.2, fun e => by have := hR k e; omega⟩
def bdL (ns us ks ts : List Nat) (K : Nat) : List (List Int) := (List.range (K + 1)).map fun i => li (bnd ns us ks ts i)
theorem bdL_length (ns us ks ts : List Nat) (K : Nat) : (bdL ns us ks ts K).length = K + 1 := by simp [bdL]
theorem bdL_succ (ns us ks ts : List Nat) (K : Nat) : bdL ns us ks ts (K + 1) = bdL ns us ks ts K ++ [li (bnd ns us ks ts (K + 1))] := by
  unfold bdL
  rw [List.range_succ (n := K + 1), List.map_append]
  rfl
theorem bdL_get (ns us ks ts : List Nat) (K i : Nat) (h : i < (bdL ns us ks ts K).length) : (bdL ns us ks ts K)[i] = li (bnd ns us ks ts i) := by
  simp [bdL]
theorem bnd_lt8 {ns us ks ts : List Nat} (h : ks.length ≤ 8) (k : Nat) : ∀ x ∈ bnd ns us ks ts k, x < 2 ^ 8 := fun x hx =>
  Nat.lt_of_lt_of_le (bnd_lt ns us ks ts k x hx) (Nat.pow_le_pow_right (by decide) h)
set_option maxRecDepth 100000 in
theorem spec_l07Bounded (ns us ks ts : List Nat) (A0 A1 B0 B1 : Option Addr) (c0 c1 d0 d1 : Nat) (w : World) (hm : Mdl w (.slice A0 ns.length c0) (.slice A1 6 c1) ns us) (hm2 : Mdl w (.slice B0 ks.length d0) (.slice B1 6 d1) ks ts) (h1 : MdN ns us) (h2 : MdN ks ts) :
    Calls Tryz.prog 61 #[.agg #[.int .i64 ns.length, .slice A0 ns.length c0, .slice A1 6 c1], .agg #[.int .i64 ks.length, .slice B0 ks.length d0, .slice B1 6 d1]] w
      fun e w' => ∃ v, e = .returned v ∧ Sl2 cI w' v (bdL ns us ks ts 16) ∧ Below w.heap.size w w' := by
  have h8 := h1.r.1
  have hk8 := h2.r.1
  have hb0 := below_alloc' w (.cells #[.int .i64 ns.length, .slice A0 ns.length c0, .slice A1 6 c1] 28)
  have hk0 := Blk.new w 28 #[.int .i64 ns.length, .slice A0 ns.length c0, .slice A1 6 c1]
  have hb1 := below_alloc' (w.alloc (.cells #[.int .i64 ns.length, .slice A0 ns.length c0, .slice A1 6 c1] 28)) (.cells #[.int .i64 ks.length, .slice B0 ks.length d0, .slice B1 6 d1] 28)
  have hk1 : Blk _ (w.heap.size + 1) _ _ := Blk.new' (w.alloc (.cells #[.int .i64 ns.length, .slice A0 ns.length c0, .slice A1 6 c1] 28)) 28 #[.int .i64 ks.length, .slice B0 ks.length d0, .slice B1 6 d1] (by simp)
  have HB := Lib.hid (bthen hb0 hb1)
  have HK0 := Lib.hid (hk0.below hb1 hk0.lt)
  have HK1 := Lib.hid hk1
  have HS := Lib.hid (fun W (hW : Below w.heap.size w W) => spec_l07Start ns us ks ts A0 A1 B0 B1 c0 c1 d0 d1 W (hm.below hW) (hm2.below hW) h1 h2)
  have HT := Lib.hid (fun W (hW : Below w.heap.size w W) (j : Nat) v (h : Sl cI W v (li (bnd ns us ks ts j))) => spec_l07Step ns us ks ts (bnd ns us ks ts j) A0 A1 B0 B1 c0 c1 d0 d1 v W (hm.below hW) (hm2.below hW) h1 h2 h (bnd_length _ _ _ _ _) (bnd_lt8 hk8 j))
  clear hb0 hb1 hk0 hk1 hm hm2 h1 h2
  go_enter Tryz.func61, Tryz.ntmps61
  go_upto_region 1 with fail
  generalize World.alloc (w.alloc _) _ = W at *
  have k0 := HK0.out.cell
  have k1 := HK1.out.cell
  have l0 := HK0.out.lt
  have l1 := HK1.out.lt
  go_wp2_with fail
  refine (HS.out _ HB.out).mono ?_
  rintro e w1 ⟨A, c, rfl, ho, hb⟩
  have HO : Hid (OwI W.heap.size none (w1.alloc (.cells #[.slice A ns.length c] 24)) (.slice (some ⟨w1.heap.size, 0, none⟩) 1 1) (bdL ns us ks ts 0)) := Lib.hid (OwI.one ho hb.size)
  have HB1 := Lib.hid (hb.trans ((Below.refl _ _).alloc hb.size (.cells #[.slice A ns.length c] 24)))
  clear k0 k1 ho hb
  go_wp2
  go_loopw [5, 6] (fun v i wr => ∃ j : Nat, j ≤ 16 ∧ i = .int .i64 j ∧ OwI W.heap.size none wr v (bdL ns us ks ts j) ∧ Below W.heap.size W wr) (fun _ i _ => 16 - (intOf i).toNat)
  case atStart => exact ⟨0, Nat.zero_le _, rfl, HO.out, HB1.out⟩
  case round =>
    obtain ⟨j, hj, rfl, ho, hb⟩ := hrel
    clear HO HB1
    obtain ⟨A, c, rfl⟩ := ho.sl2.opn
    obtain ⟨L, hL⟩ : ∃ L, (bdL ns us ks ts j).length = L := ⟨_, rfl⟩
    rw [hL] at ho ⊢
    have hLj : L = j + 1 := by rw [← hL, bdL_length]
    have HLj := Lib.hid hLj
    clear hL
    have HO := Lib.hid ho
    have HBj := Lib.hid hb
    by_cases hlt : j < 16
    · obtain ⟨b, o, Aj, nj, cj, rfl, hbl, hcj, hsj⟩ := ho.sl2.at_ (k := j) (by rw [bdL_length]; omega)
      rw [bdL_get] at hsj
      have hnj : nj = ns.length := by
        obtain ⟨A', c', hv⟩ := hsj.opn
        rw [li_length, bnd_length] at hv
        injection hv
      subst hnj
      have HSJ := Lib.hid hsj
      have k0 := (HK0.out.below hb l0).cell
      have k1 := (HK1.out.below hb l1).cell
      have i1 : (j : Int) < (L : Int) := by omega
      clear ho hb hsj hLj
      have hBr := Lib.hid (HO.out.sl2)
      have HE := Lib.hid (bdL_succ ns us ks ts j)
      have HOB : Hid (∀ k, (Value.slice (some ⟨b, o, none⟩) L c).ownBlock = some k → k < wr.heap.size) := Lib.hid (by
        obtain ⟨hs, q1, _⟩ := HO.out
        exact fun k hk => (q1.block k hk).2)
      go_wp2
      go_region_law (first | (refine step_one (K := cH) _ ty_intss rfl _ _ rfl (B := W.heap.size) (xs := hs) (by simp [Act.eval, Act.put]; done) g1 (⟨A3, ns.length, c3⟩ : Hd) rfl (by simp [Act.eval, Act.put]; done) (by omega) hz3 ?_; intro v1 w5 ho1 hg1 hb1 hat1) | (go_simp; go_at_call 127; refine (HT.out _ (bthen HB.out (below_drewN HBj.out 1)) j _ (HSJ.out.below (below_drewN (Below.refl _ _) 1))).mono ?_; rintro e w3 ⟨A3, c3, rfl, hu, hb⟩; have hO3 := (HO.out.below (below_drewN (Below.refl _ _) 1)).below hb; have hb3 := (below_drewN HBj.out 1).trans (hb.mono (below_drewN HBj.out 1).size); obtain ⟨hs, g1, g2, g3⟩ := hO3.push hu HOB.out (fun r hr => by cases hr); have hz3 := hb3.size; have hlen : hs.length ≤ 17 := by rw [g2, bdL_length]; omega))
      all_goals
        have Y1 := Lib.hid (g3 _ _ ho1 hg1 hat1)
        have Y4 := Lib.hid (hb3.trans hb1)
        clear ho1 hg1 hb1 hat1 g1 g2 g3 hu hb hb3 hO3 k0 k1 hcj
        go_wp2
        go_roundw
        case rel => exact ⟨j + 1, by omega, by go_num, by rw [HE.out]; exact Y1.out, Y4.out⟩
        case measure => simp [intOf]; omega
    · obtain rfl : j = 16 := by omega
      clear ho hb hLj
      go_wp2
      go_ret
      exact ⟨_, rfl, HO.out.sl2, bthen HB.out HBj.out⟩
theorem spec_l07Greatest (ns us ks ts : List Nat) (A0 A1 B0 B1 : Option Addr) (c0 c1 d0 d1 : Nat) (w : World) (hm : Mdl w (.slice A0 ns.length c0) (.slice A1 6 c1) ns us) (hm2 : Mdl w (.slice B0 ks.length d0) (.slice B1 6 d1) ks ts) (h1 : MdN ns us) (h2 : MdN ks ts) :
    Calls Tryz.prog 100 #[.agg #[.int .i64 ns.length, .slice A0 ns.length c0, .slice A1 6 c1], .agg #[.int .i64 ks.length, .slice B0 ks.length d0, .slice B1 6 d1]] w
      fun e w' => ∃ A c, e = .returned (.slice A ns.length c) ∧ Sl cI w' (.slice A ns.length c) (li (bnd ns us ks ts 16)) ∧ Below w.heap.size w w' := by
  have hb0 := below_alloc' w (.cells #[.int .i64 ns.length, .slice A0 ns.length c0, .slice A1 6 c1] 28)
  have hk0 := Blk.new w 28 #[.int .i64 ns.length, .slice A0 ns.length c0, .slice A1 6 c1]
  have hb1 := below_alloc' (w.alloc (.cells #[.int .i64 ns.length, .slice A0 ns.length c0, .slice A1 6 c1] 28)) (.cells #[.int .i64 ks.length, .slice B0 ks.length d0, .slice B1 6 d1] 28)
  have hk1 : Blk _ (w.heap.size + 1) _ _ := Blk.new' (w.alloc (.cells #[.int .i64 ns.length, .slice A0 ns.length c0, .slice A1 6 c1] 28)) 28 #[.int .i64 ks.length, .slice B0 ks.length d0, .slice B1 6 d1] (by simp)
  have HB := Lib.hid (bthen hb0 hb1)
  have HK0 := Lib.hid (hk0.below hb1 hk0.lt)
  have HK1 := Lib.hid hk1
  have HS := Lib.hid (fun W (hW : Below w.heap.size w W) => spec_l07Bounded ns us ks ts A0 A1 B0 B1 c0 c1 d0 d1 W (hm.below hW) (hm2.below hW) h1 h2)
  clear hb0 hb1 hk0 hk1 hm hm2 h1 h2
  go_enter Tryz.func100, Tryz.ntmps100
  go_upto_region 1 with fail
  generalize World.alloc (w.alloc _) _ = W at *
  have k0 := HK0.out.cell
  have k1 := HK1.out.cell
  have l0 := HK0.out.lt
  have l1 := HK1.out.lt
  go_wp2_with fail
  refine (HS.out _ HB.out).mono ?_
  rintro e w1 ⟨v, rfl, hs, hb⟩
  obtain ⟨A, c, rfl⟩ := hs.opn
  obtain ⟨b, o, Aj, nj, cj, rfl, hbl, hcj, hsj⟩ := hs.at_ (k := 16) (by rw [bdL_length]; omega)
  rw [bdL_get] at hsj
  have hnj : nj = ns.length := by
    obtain ⟨A', c', hv⟩ := hsj.opn
    rw [li_length, bnd_length] at hv
    injection hv
  subst hnj
  rw [bdL_length]
  have HB1 := Lib.hid (bthen HB.out hb)
  have HSJ := Lib.hid hsj
  clear hs hb hsj k0 k1
  go_wp2
  go_ret
  exact ⟨_, _, rfl, HSJ.out, HB1.out⟩
/- Contracts of chapter 7, of the program: bounded, bisimilar. -/
theorem OwI.setR {B R : Nat} {w : World} {v : Value} {xss : List (List Int)} (h : OwI B (some R) w v xss) (i : Nat) (u : Value) : OwI B (some R) (w.setCell ⟨R, i, none⟩ u) v xss := by
  obtain ⟨hs, h1, h0, h2, h3⟩ := h
  have hsz : (w.setCell ⟨R, i, none⟩ u).heap.size = w.heap.size := by simp
  refine ⟨hs, h1.far (h0 R rfl).1 u, fun r hr => ⟨(h0 r hr).1, by rw [hsz]; exact (h0 r hr).2⟩, h2, fun i a b => ⟨(h3 i a b).1.grown (grown_set (World.grownBy.refl w (some R)) rfl _ _) ?_, ?_⟩⟩
  · rcases (h3 i a b).2 with h | ⟨-, k⟩
    · exact .inl h
    · refine .inr fun e => ?_
      exact (k R e).2 rfl
  · rcases (h3 i a b).2 with h | ⟨h, k⟩
    · exact .inl h
    · exact .inr ⟨h, fun j hj => by rw [hsz]; exact k j hj⟩
theorem OwI.form {B : Nat} {R : Option Nat} {w : World} {v : Value} {xss : List (List Int)} (h : OwI B R w v xss) (hn : 0 < xss.length) : ∃ g c, v = .slice (some ⟨g, 0, none⟩) xss.length c := by
  obtain ⟨hs, h1, -, h2, -⟩ := h
  obtain ⟨g, c, hv, -⟩ := h1.form (by omega)
  exact ⟨g, c, by rw [hv, h2]⟩
theorem OwI.at_ {B : Nat} {R : Option Nat} {w : World} {g n c : Nat} {xss : List (List Int)} (h : OwI B R w (.slice (some ⟨g, 0, none⟩) n c) xss) {k : Nat} (hk : k < xss.length) :
    ∃ A m d, w.cell? ⟨g, k, none⟩ = some (.slice A m d) ∧ Sl cI w (.slice A m d) xss[k] ∧ g < w.heap.size := by
  obtain ⟨b, o, A, m, d, hA, hb, hc, hs⟩ := h.sl2.at_ hk
  injection hA with hA
  injection hA with e1 e2
  subst e1
  subst e2
  exact ⟨A, m, d, by simpa using hc, hs, hb⟩
theorem link_bounded_1 (ns us ks ts : List Nat) (A0 A1 B0 B1 : Option Addr) (c0 c1 d0 d1 : Nat) (p q : Nat) (w : World) (hp : Blk w p 28 #[.int .i64 ns.length, .slice A0 ns.length c0, .slice A1 6 c1]) (hq : Blk w q 28 #[.int .i64 ks.length, .slice B0 ks.length d0, .slice B1 6 d1])
    (hm : Mdl w (.slice A0 ns.length c0) (.slice A1 6 c1) ns us) (hm2 : Mdl w (.slice B0 ks.length d0) (.slice B1 6 d1) ks ts) (h1 : MdN ns us) (h2 : MdN ks ts) :
    Calls Tryz.prog 188 #[.agg #[.int .i64 ns.length, .slice A0 ns.length c0, .slice A1 6 c1], .agg #[.int .i64 ks.length, .slice B0 ks.length d0, .slice B1 6 d1], .func (.func 189) #[] #[.pointer (some ⟨p, 0, none⟩), .pointer (some ⟨q, 0, none⟩)]] w
      fun e w' => ∃ A c, e = .returned (.slice A ns.length c) ∧ Ow cI 2 w.heap.size w' (.slice A ns.length c) (li (bnd ns us ks ts 0)) ∧ Below w.heap.size w w' :=
  impl_linkOf ns.length ks.length A0 A1 B0 B1 ns.length 6 ks.length 6 c0 c1 d0 d1 189 #[.pointer (some ⟨p, 0, none⟩), .pointer (some ⟨q, 0, none⟩)] (atm us ts) w h1.r.1 h2.r.1 en_bounded_1 (fun W hW x y hx hy => by
    rw [show (#[Value.int .i64 (x : Int), .int .i64 (y : Int)] ++ #[Value.pointer (some ⟨p, 0, none⟩), .pointer (some ⟨q, 0, none⟩)] : Array Value) = #[.int .i64 x, .int .i64 y, .pointer (some ⟨p, 0, none⟩), .pointer (some ⟨q, 0, none⟩)] from rfl]
    have h8 := h1.r.1
    have hk8 := h2.r.1
    exact impl_bounded_1 ns.length ks.length A0 A1 B0 B1 ns.length ks.length c0 c1 d0 d1 us ts x y p q W (hp.below hW hp.lt) (hq.below hW hq.lt) (hm.u.below hW) (hm2.u.below hW) h1.l h2.l h1.u256 h2.u256 (by omega) (by omega))
theorem link_bounded_2 (ns us ks ts : List Nat) (A0 A1 B0 B1 C0 C1 : Option Addr) (c0 c1 d0 d1 e0 e1 L C : Nat) (p q r l g j : Nat) (w : World) (hp : Blk w p 28 #[.int .i64 ns.length, .slice A0 ns.length c0, .slice A1 6 c1]) (hq : Blk w q 28 #[.int .i64 ks.length, .slice B0 ks.length d0, .slice B1 6 d1])
    (hm : Mdl w (.slice A0 ns.length c0) (.slice A1 6 c1) ns us) (hm2 : Mdl w (.slice B0 ks.length d0) (.slice B1 6 d1) ks ts) (h1 : MdN ns us) (h2 : MdN ks ts)
    (hr : w.cell? ⟨r, 0, none⟩ = some (.slice (some ⟨g, 0, none⟩) L C)) (hL : 0 < L) (hg : w.cell? ⟨g, 0, none⟩ = some (.slice C0 ns.length e0)) (hs0 : Sl cI w (.slice C0 ns.length e0) (li (bnd ns us ks ts 0)))
    (hlc : w.cell? ⟨l, 0, none⟩ = some (.slice C1 ns.length e1)) (hs1 : Sl cI w (.slice C1 ns.length e1) (li (bnd ns us ks ts j))) (hrl : r < w.heap.size) (hll : l < w.heap.size) (hgl : g < w.heap.size) :
    Calls Tryz.prog 188 #[.agg #[.int .i64 ns.length, .slice A0 ns.length c0, .slice A1 6 c1], .agg #[.int .i64 ks.length, .slice B0 ks.length d0, .slice B1 6 d1], .func (.func 190) #[] #[.pointer (some ⟨r, 0, none⟩), .pointer (some ⟨p, 0, none⟩), .pointer (some ⟨q, 0, none⟩), .pointer (some ⟨l, 0, none⟩)]] w
      fun e w' => ∃ A c, e = .returned (.slice A ns.length c) ∧ Ow cI 2 w.heap.size w' (.slice A ns.length c) (li (bnd ns us ks ts (j + 1))) ∧ Below w.heap.size w w' :=
  impl_linkOf ns.length ks.length A0 A1 B0 B1 ns.length 6 ks.length 6 c0 c1 d0 d1 190 #[.pointer (some ⟨r, 0, none⟩), .pointer (some ⟨p, 0, none⟩), .pointer (some ⟨q, 0, none⟩), .pointer (some ⟨l, 0, none⟩)] (hol ns us ks ts (bnd ns us ks ts j)) w h1.r.1 h2.r.1 en_bounded_2 (fun W hW x y hx hy => by
    rw [show (#[Value.int .i64 (x : Int), .int .i64 (y : Int)] ++ #[Value.pointer (some ⟨r, 0, none⟩), .pointer (some ⟨p, 0, none⟩), .pointer (some ⟨q, 0, none⟩), .pointer (some ⟨l, 0, none⟩)] : Array Value) = #[.int .i64 x, .int .i64 y, .pointer (some ⟨r, 0, none⟩), .pointer (some ⟨p, 0, none⟩), .pointer (some ⟨q, 0, none⟩), .pointer (some ⟨l, 0, none⟩)] from rfl]
    exact impl_bounded_2 ns us ks ts (bnd ns us ks ts j) A0 A1 B0 B1 C0 C1 c0 c1 d0 d1 e0 e1 L C x y p q r l g W (hp.below hW hp.lt) (hq.below hW hq.lt) ((hW.cell (p := ⟨r, 0, none⟩) hrl).trans hr) hL ((hW.cell (p := ⟨g, 0, none⟩) hgl).trans hg) (hs0.below hW)
      ((hW.cell (p := ⟨l, 0, none⟩) hll).trans hlc) (hs1.below hW) (Nat.lt_of_lt_of_le hrl hW.size) (Nat.lt_of_lt_of_le hll hW.size) (hm.a.below hW) (hm2.a.below hW) h1.r h2.r (bnd_length _ _ _ _ _) (bnd_lt8 h2.r.1 j) hx hy)
set_option maxRecDepth 100000 in
set_option maxHeartbeats 2000000 in
theorem impl_bounded (ns us ks ts : List Nat) (K : Nat) (A0 A1 B0 B1 : Option Addr) (c0 c1 d0 d1 : Nat) (w : World) (hK : K ≤ 16) (hm : Mdl w (.slice A0 ns.length c0) (.slice A1 6 c1) ns us) (hm2 : Mdl w (.slice B0 ks.length d0) (.slice B1 6 d1) ks ts) (h1 : MdN ns us) (h2 : MdN ks ts) :
    Calls Tryz.prog 102 #[.agg #[.int .i64 ns.length, .slice A0 ns.length c0, .slice A1 6 c1], .agg #[.int .i64 ks.length, .slice B0 ks.length d0, .slice B1 6 d1], .int .i64 K] w
      fun e w' => ∃ v, e = .returned v ∧ Sl2 cI w' v (bdL ns us ks ts K) ∧ Below w.heap.size w w' := by
  have hb0 := below_alloc' w (.cells #[.int .i64 ns.length, .slice A0 ns.length c0, .slice A1 6 c1] 28)
  have hk0 := Blk.new w 28 #[.int .i64 ns.length, .slice A0 ns.length c0, .slice A1 6 c1]
  have hb1 := below_alloc' (w.alloc (.cells #[.int .i64 ns.length, .slice A0 ns.length c0, .slice A1 6 c1] 28)) (.cells #[.int .i64 ks.length, .slice B0 ks.length d0, .slice B1 6 d1] 28)
  have hk1 : Blk _ (w.heap.size + 1) _ _ := Blk.new' (w.alloc (.cells #[.int .i64 ns.length, .slice A0 ns.length c0, .slice A1 6 c1] 28)) 28 #[.int .i64 ks.length, .slice B0 ks.length d0, .slice B1 6 d1] (by simp)
  have HB := Lib.hid (bthen hb0 hb1)
  have HK0 := Lib.hid (hk0.below hb1 hk0.lt)
  have HK1 := Lib.hid hk1
  have HM := Lib.hid ((hm.below hb0).below hb1)
  have HM2 := Lib.hid ((hm2.below hb0).below hb1)
  have H1 := Lib.hid h1
  have H2 := Lib.hid h2
  clear hb0 hb1 hk0 hk1 hm hm2 h1 h2
  go_enter Tryz.func102, Tryz.ntmps102
  go_upto_region 1 with fail
  generalize World.alloc (w.alloc _) _ = W at *
  have k0 := HK0.out.cell
  have k1 := HK1.out.cell
  have l0 := HK0.out.lt
  have l1 := HK1.out.lt
  go_wp2_with fail
  refine (link_bounded_1 ns us ks ts A0 A1 B0 B1 c0 c1 d0 d1 _ _ _ HK0.out HK1.out HM.out HM2.out H1.out H2.out).mono ?_
  rintro e w1 ⟨A, c, rfl, ho, hb⟩
  have hO1 := OwI.one (B := W.heap.size) ho hb.size
  have hb5 := below_alloc' (w1.alloc (.cells #[.slice A ns.length c] 24)) (.cells #[.slice (some ⟨w1.heap.size, 0, none⟩) 1 1] 81)
  have hK5 : Blk _ (w1.heap.size + 1) _ _ := Blk.new' (w1.alloc (.cells #[.slice A ns.length c] 24)) 81 #[.slice (some ⟨w1.heap.size, 0, none⟩) 1 1] (by simp)
  have HO : Hid (OwI W.heap.size (some (w1.heap.size + 1)) ((w1.alloc (.cells #[.slice A ns.length c] 24)).alloc (.cells #[.slice (some ⟨w1.heap.size, 0, none⟩) 1 1] 81)) (.slice (some ⟨w1.heap.size, 0, none⟩) 1 1) (bdL ns us ks ts 0)) := Lib.hid (hO1.mark hb5 (w1.heap.size + 1) (by simp) (by simp))
  have HB1 : Hid (Below W.heap.size W ((w1.alloc (.cells #[.slice A ns.length c] 24)).alloc (.cells #[.slice (some ⟨w1.heap.size, 0, none⟩) 1 1] 81))) := Lib.hid ((hb.trans ((Below.refl _ _).alloc hb.size (.cells #[.slice A ns.length c] 24))).trans (hb5.mono (by have := hb.size; simp; omega)))
  have HK5 := Lib.hid hK5
  have hsz1 := hb.size
  clear ho hb hO1 hb5 hK5 k0 k1
  go_wp2
  have hRW : W.heap.size ≤ w1.heap.size + 1 := by omega
  generalize w1.heap.size + 1 = R at *
  generalize World.alloc (w1.alloc _) _ = W5 at *
  clear hsz1
  go_loopw [15] (fun i wr => ∃ j : Nat, j ≤ K ∧ i = .int .i64 j ∧ (∃ g c, Blk wr R 81 #[.slice (some ⟨g, 0, none⟩) (j + 1) c] ∧ OwI W.heap.size (some R) wr (.slice (some ⟨g, 0, none⟩) (j + 1) c) (bdL ns us ks ts j)) ∧ Below W.heap.size W wr) (fun i _ => K - (intOf i).toNat)
  case atStart => exact ⟨0, Nat.zero_le _, rfl, ⟨_, _, HK5.out, HO.out⟩, HB1.out⟩
  case round =>
    obtain ⟨j, hj, rfl, ⟨g, c, hkr, ho⟩, hb⟩ := hrel
    clear HO HB1 HK5
    obtain ⟨L, hL⟩ : ∃ L, j + 1 = L := ⟨_, rfl⟩
    rw [hL] at hkr ho
    have HO := Lib.hid ho
    have HBj := Lib.hid hb
    have HLj := Lib.hid hL
    have kr := hkr.cell
    have rl := hkr.lt
    by_cases hlt : j < K
    · obtain ⟨C0, m0, e0, hg0, hs0, hgl⟩ := ho.at_ (k := 0) (by rw [bdL_length]; omega)
      obtain ⟨C1, m1, e1, hg1, hs1, -⟩ := ho.at_ (k := j) (by rw [bdL_length]; omega)
      rw [bdL_get] at hs0 hs1
      have hm0 : m0 = ns.length := by
        obtain ⟨A', c', hv⟩ := hs0.opn
        rw [li_length, bnd_length] at hv
        injection hv
      have hm1 : m1 = ns.length := by
        obtain ⟨A', c', hv⟩ := hs1.opn
        rw [li_length, bnd_length] at hv
        injection hv
      subst hm0
      subst hm1
      have hb4 := below_alloc' wr (.cells #[.slice C1 ns.length e1] 24)
      have hk4 := Blk.new wr 24 #[.slice C1 ns.length e1]
      have hk4l := hk4.lt
      have HKR := Lib.hid (hkr.below hb4 rl)
      have HO4 := Lib.hid (ho.below hb4)
      have HB4 := Lib.hid (bthen hb hb4)
      have HP := Lib.hid ((HK0.out.below hb l0).below hb4 (Nat.lt_of_lt_of_le l0 hb.size))
      have HQ := Lib.hid ((HK1.out.below hb l1).below hb4 (Nat.lt_of_lt_of_le l1 hb.size))
      have HL2 : Hid (∀ W' : World, Below (wr.alloc (.cells #[.slice C1 ns.length e1] 24)).heap.size (wr.alloc (.cells #[.slice C1 ns.length e1] 24)) W' →
          Calls Tryz.prog 188 #[.agg #[.int .i64 ns.length, .slice A0 ns.length c0, .slice A1 6 c1], .agg #[.int .i64 ks.length, .slice B0 ks.length d0, .slice B1 6 d1], .func (.func 190) #[] #[.pointer (some ⟨R, 0, none⟩), .pointer (some ⟨w.heap.size, 0, none⟩), .pointer (some ⟨w.heap.size + 1, 0, none⟩), .pointer (some ⟨wr.heap.size, 0, none⟩)]] W'
            fun e w' => ∃ A c, e = .returned (.slice A ns.length c) ∧ Ow cI 2 W'.heap.size w' (.slice A ns.length c) (li (bnd ns us ks ts (j + 1))) ∧ Below W'.heap.size W' w') := Lib.hid (fun W' hW' =>
        link_bounded_2 ns us ks ts A0 A1 B0 B1 C0 C1 c0 c1 d0 d1 e0 e1 L c w.heap.size (w.heap.size + 1) R wr.heap.size g j W' (HP.out.below hW' HP.out.lt) (HQ.out.below hW' HQ.out.lt) (((HM.out.below hb).below hb4).below hW') (((HM2.out.below hb).below hb4).below hW') H1.out H2.out
          ((HKR.out.below hW' HKR.out.lt).cell 0) (by omega) ((hW'.cell (p := ⟨g, 0, none⟩) (by have := hb4.size; show g < _; omega)).trans ((hb4.cell (p := ⟨g, 0, none⟩) hgl).trans hg0)) ((hs0.below hb4).below hW')
          ((hk4.below hW' hk4l).cell 0) ((hs1.below hb4).below hW') (Nat.lt_of_lt_of_le HKR.out.lt hW'.size) (Nat.lt_of_lt_of_le hk4l hW'.size) (by have := hb4.size; have := hW'.size; omega))
      have HE := Lib.hid (bdL_succ ns us ks ts j)
      have HOB : Hid (∀ k, (Value.slice (some ⟨g, 0, none⟩) L c).ownBlock = some k → k < (wr.alloc (.cells #[.slice C1 ns.length e1] 24)).heap.size) := Lib.hid (by
        obtain ⟨hs, q1, _⟩ := HO4.out
        exact fun k hk => (q1.block k hk).2)
      have HNR : Hid ((some R : Option Nat) ≠ (Value.slice (some ⟨g, 0, none⟩) L c).ownBlock) := Lib.hid (by
        obtain ⟨hs, -, q1, _⟩ := HO4.out
        exact fun e => (q1 R rfl).1 e.symm)
      have i1 : (j : Int) < (L : Int) := by omega
      have i4 : (L : Int) - 1 = (j : Int) := by omega
      have i3 : IntKind.i64.wrap ((L : Int) - 1) = (j : Int) := by rw [i4, IntWalk.i64_in _ ⟨by omega, by omega⟩]
      clear hs0 hs1 hk4 hb4 hkr ho hb hL hg0
      go_upto_region 5 with fail
      clear kr hg1 i1 i3 i4
      generalize wr.alloc (.cells #[.slice C1 ns.length e1] 24) = W4 at *
      have kr := HKR.out.cell
      have kp := HP.out.cell
      have kq := HQ.out.cell
      have rl4 := HKR.out.lt
      have pl4 := HP.out.lt
      have ql4 := HQ.out.lt
      go_region_law (first | (refine step_one (K := cH) _ ty_intss rfl _ _ rfl (B := W.heap.size) (xs := hs) (by simp [Act.eval, Act.put]; done) g1 (⟨A3, ns.length, c3⟩ : Hd) rfl (by simp [Act.eval, Act.put]; done) (by omega) hz3 ?_; intro v1 w5 ho1 hg1 hb1 hat1; obtain ⟨g9, c9, hv9, -⟩ := ho1.form (by simp); rw [hl9] at hv9; subst hv9; have hk9 := (hk3.alloc _).grown hg1 HNR.out; have kc9 := hk9.cell; have kf9 := hk9.frozen; have kl9 := hk9.lt) | (go_simp; go_at_call 188; refine (HL2.out _ (below_drewN (Below.refl _ _) 1)).mono ?_; rintro e w3 ⟨A3, c3, rfl, hu, hb⟩; have hO3 := (HO4.out.below (below_drewN (Below.refl _ _) 1)).below hb; have hb3 := (below_drewN HB4.out 1).trans (hb.mono (below_drewN HB4.out 1).size); have hk3 := HKR.out.below ((below_drewN (Below.refl _ _) 1).trans hb) rl4; have rc3 := hk3.cell; have rl3 := hk3.lt; obtain ⟨hs, g1, g2, g3⟩ := hO3.push hu HOB.out (fun r hr => by injection hr with hr; subst hr; exact rl4); have hz3 := hb3.size; have hlen : hs.length ≤ 17 := (by rw [g2, bdL_length]; omega); have hl9 : (hs ++ [(⟨A3, ns.length, c3⟩ : Hd)]).length = L + 1 := (by rw [List.length_append, g2, bdL_length, HLj.out]; rfl)))
      all_goals
        have Y0 := (g3 _ _ ho1 hg1 hat1).setR 0 (.slice (some ⟨g9, 0, none⟩) (L + 1) c9)
        rw [← HE.out, HLj.out] at Y0
        have Y1 := Lib.hid Y0
        clear Y0
        have Y2 := Lib.hid (hk9.set_ 0 (.slice (some ⟨g9, 0, none⟩) (L + 1) c9))
        have Y4 := Lib.hid ((hb3.trans hb1).setCell (p := ⟨R, 0, none⟩) hRW (.slice (some ⟨g9, 0, none⟩) (L + 1) c9))
        have HLL := HLj.out
        clear ho1 hg1 hb1 hat1 g1 g2 g3 hu hb hb3 hO3 hk3 rc3 kr kp kq hk9 kc9 kf9
        go_wp2
        go_roundw
        case rel => exact ⟨j + 1, by omega, by go_num, ⟨g9, c9, by rw [HLL]; exact Y2.out, by rw [HLL]; exact Y1.out⟩, Y4.out⟩
        case measure => simp [intOf]; omega
    · obtain rfl : j = K := by omega
      clear ho hb hL
      go_wp2
      go_ret
      exact ⟨_, rfl, HO.out.sl2, bthen HB.out HBj.out⟩
theorem impl_bisimilar (ns us ks ts : List Nat) (A0 A1 B0 B1 : Option Addr) (c0 c1 d0 d1 : Nat) (w : World) (hm : Mdl w (.slice A0 ns.length c0) (.slice A1 6 c1) ns us) (hm2 : Mdl w (.slice B0 ks.length d0) (.slice B1 6 d1) ks ts) (h1 : MdN ns us) (h2 : MdN ks ts) :
    Calls Tryz.prog 43 #[.agg #[.int .i64 ns.length, .slice A0 ns.length c0, .slice A1 6 c1], .agg #[.int .i64 ks.length, .slice B0 ks.length d0, .slice B1 6 d1]] w
      fun e w' => ∃ A c, e = .returned (.slice A ns.length c) ∧ Sl cI w' (.slice A ns.length c) (li (bnd ns us ks ts 16)) ∧ Below w.heap.size w w' := by
  have hb0 := below_alloc' w (.cells #[.int .i64 ns.length, .slice A0 ns.length c0, .slice A1 6 c1] 28)
  have hk0 := Blk.new w 28 #[.int .i64 ns.length, .slice A0 ns.length c0, .slice A1 6 c1]
  have hb1 := below_alloc' (w.alloc (.cells #[.int .i64 ns.length, .slice A0 ns.length c0, .slice A1 6 c1] 28)) (.cells #[.int .i64 ks.length, .slice B0 ks.length d0, .slice B1 6 d1] 28)
  have hk1 : Blk _ (w.heap.size + 1) _ _ := Blk.new' (w.alloc (.cells #[.int .i64 ns.length, .slice A0 ns.length c0, .slice A1 6 c1] 28)) 28 #[.int .i64 ks.length, .slice B0 ks.length d0, .slice B1 6 d1] (by simp)
  have HB := Lib.hid (bthen hb0 hb1)
  have HK0 := Lib.hid (hk0.below hb1 hk0.lt)
  have HK1 := Lib.hid hk1
  have HS := Lib.hid (fun W (hW : Below w.heap.size w W) => impl_bounded ns us ks ts 16 A0 A1 B0 B1 c0 c1 d0 d1 W (Nat.le_refl _) (hm.below hW) (hm2.below hW) h1 h2)
  clear hb0 hb1 hk0 hk1 hm hm2 h1 h2
  go_enter Tryz.func43, Tryz.ntmps43
  go_upto_region 1 with fail
  generalize World.alloc (w.alloc _) _ = W at *
  have k0 := HK0.out.cell
  have k1 := HK1.out.cell
  have l0 := HK0.out.lt
  have l1 := HK1.out.lt
  go_wp2_with fail
  refine (HS.out _ HB.out).mono ?_
  rintro e w1 ⟨v, rfl, hs, hb⟩
  obtain ⟨A, c, rfl⟩ := hs.opn
  obtain ⟨b, o, Aj, nj, cj, rfl, hbl, hcj, hsj⟩ := hs.at_ (k := 16) (by rw [bdL_length]; omega)
  rw [bdL_get] at hsj
  have hnj : nj = ns.length := by
    obtain ⟨A', c', hv⟩ := hsj.opn
    rw [li_length, bnd_length] at hv
    injection hv
  subst hnj
  rw [bdL_length]
  have HB1 := Lib.hid (bthen HB.out hb)
  have HSJ := Lib.hid hsj
  clear hs hb hsj k0 k1
  go_wp2
  go_ret
  exact ⟨_, _, rfl, HSJ.out, HB1.out⟩
end Go.Proofs.YtnolbgdbboiehaaGreat

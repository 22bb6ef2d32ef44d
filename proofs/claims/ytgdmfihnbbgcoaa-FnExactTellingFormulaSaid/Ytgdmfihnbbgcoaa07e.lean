/- Contracts of chapter 7, of the reference: start and step. -/
import Derived.Test.Ytgdmfihnbbgcoaa07d
import Derived.Test.YtgdmfihnbbgcoaaSB
namespace Go.Proofs.Ytgdmfihnbbgcoaa
open Go.RowKit
set_option linter.unusedVariables false
set_option linter.unusedSimpArgs false
theorem lnk_succ (n k : Nat) (p : Nat → Nat → Bool) : li (lnk (n + 1) k p) = li (lnk n k p) ++ [((msk (p n) k : Nat) : Int)] := by
  unfold lnk li
  rw [List.range_succ, List.map_append, List.map_append]
  rfl
set_option maxRecDepth 100000 in
theorem spec_l07Start (ns us ks ts : List Nat) (A0 A1 B0 B1 : Option Addr) (c0 c1 d0 d1 : Nat) (w : World) (hm : Mdl w (.slice A0 ns.length c0) (.slice A1 6 c1) ns us) (hm2 : Mdl w (.slice B0 ks.length d0) (.slice B1 6 d1) ks ts) (h1 : MdN ns us) (h2 : MdN ks ts) :
    Calls Try.prog 143 #[.agg #[.int .i64 ns.length, .slice A0 ns.length c0, .slice A1 6 c1], .agg #[.int .i64 ks.length, .slice B0 ks.length d0, .slice B1 6 d1]] w
      fun e w' => ∃ A c, e = .returned (.slice A ns.length c) ∧ Ow cI 2 w.heap.size w' (.slice A ns.length c) (li (lnk ns.length ks.length (atm us ts))) ∧ Below w.heap.size w w' := by
  have h8 := h1.r.1
  have hk8 := h2.r.1
  have hb0 := below_alloc' w (.cells #[.int .i64 ns.length, .slice A0 ns.length c0, .slice A1 6 c1] 62)
  have hk0 := Blk.new w 62 #[.int .i64 ns.length, .slice A0 ns.length c0, .slice A1 6 c1]
  have hb1 := below_alloc' (w.alloc (.cells #[.int .i64 ns.length, .slice A0 ns.length c0, .slice A1 6 c1] 62)) (.cells #[.int .i64 ks.length, .slice B0 ks.length d0, .slice B1 6 d1] 62)
  have hk1 : Blk _ (w.heap.size + 1) _ _ := Blk.new' (w.alloc (.cells #[.int .i64 ns.length, .slice A0 ns.length c0, .slice A1 6 c1] 62)) 62 #[.int .i64 ks.length, .slice B0 ks.length d0, .slice B1 6 d1] (by simp)
  have HB := Lib.hid (bthen hb0 hb1)
  have HK0 := Lib.hid (hk0.below hb1 hk0.lt)
  have HK1 := Lib.hid hk1
  have HN := Lib.hid (hm.a)
  have HKs := Lib.hid (hm2.a)
  have H1 := Lib.hid h1
  have H2 := Lib.hid h2
  have LN := Lib.hid (li_length ns)
  have LK := Lib.hid (li_length ks)
  have HT := Lib.hid (fun W (hW : Below w.heap.size w W) (x y : Nat) (hx : x ≤ 60) (hy : y ≤ 60) => spec_l07Atoms ns.length ks.length A0 B0 ns.length ks.length c0 d0 _ _ us ts x y W (hm.u.below hW) (hm2.u.below hW) h1.l h2.l h1.u256 h2.u256 hx hy)
  clear hb0 hb1 hk0 hk1 hm hm2 h1 h2
  obtain ⟨p, hp⟩ : ∃ p, p = atm us ts := ⟨_, rfl⟩
  rw [← hp]
  have EP := Lib.hid hp
  clear hp
  go_enter Try.func143, Try.ntmps143
  go_upto_region 1 with fail
  generalize World.alloc (w.alloc _) _ = W at *
  go_wp2
  go_loopw [5, 6] (fun v i wr => ∃ j : Nat, j ≤ ns.length ∧ i = .int .i64 j ∧ Ow cI 2 W.heap.size wr v (li (lnk j ks.length p)) ∧ Below W.heap.size W wr) (fun _ i _ => ns.length - (intOf i).toNat)
  case atStart => exact ⟨0, Nat.zero_le _, rfl, Ow.lit [] rfl rfl (Nat.le_refl _), (Below.refl _ _).alloc (Nat.le_refl _) _⟩
  case round =>
    obtain ⟨x, hx, rfl, ho, hb⟩ := hrel
    obtain ⟨Ao, co, rfl⟩ := ho.opn
    have hLx : (li (lnk x ks.length p)).length = x := by rw [li_length, lnk_length]
    rw [hLx] at ho ⊢
    clear hLx
    have hk2 := HK0.out.below hb HK0.out.lt
    have k2 := hk2.cell
    have HO := Lib.hid ho
    have HBx := Lib.hid hb
    by_cases hxn : x < ns.length
    · clear ho hb hk2
      go_wp2
      clear k2
      go_loopw [7, 8] (fun t i wq => ∃ j : Nat, j ≤ ks.length ∧ i = .int .i64 j ∧ t = .int .i64 (msk (p x) j : Nat) ∧ Ow cI 2 W.heap.size wq (.slice Ao x co) (li (lnk x ks.length p)) ∧ Below W.heap.size W wq) (fun _ i _ => ks.length - (intOf i).toNat)
      case atStart => exact ⟨0, Nat.zero_le _, rfl, rfl, HO.out, HBx.out⟩
      case round =>
        obtain ⟨y, hy, rfl, rfl, ho, hb⟩ := hrel
        clear HO HBx
        have HO := Lib.hid ho
        have HBy := Lib.hid hb
        have hk0 := HK0.out.below hb HK0.out.lt
        have hk1 := HK1.out.below hb HK1.out.lt
        have k0 := hk0.cell
        have k1 := hk1.cell
        have l0 := hk0.lt
        have l1 := hk1.lt
        clear ho hb hk0 hk1
        by_cases hyk : y < ks.length
        · have HP : Hid (p x y = atm us ts x y) := Lib.hid (by rw [EP.out])
          have HS : Hid (msk (p x) (y + 1) = msk (p x) y ||| if p x y = true then 2 ^ y else 0) := Lib.hid rfl
          have hq := msk_bound (p x) hy hk8
          generalize msk (p x) y = q at *
          rw [HP.out] at HS
          go_wp2_with fail
          refine (HT.out _ (bthen HB.out HBy.out) x y (by omega) (by omega)).mono ?_
          rintro e w3 ⟨rfl, hb⟩
          have HO3 := Lib.hid (HO.out.below hb)
          have HB3 := Lib.hid (HBy.out.trans (hb.mono HBy.out.size))
          clear hb k0 k1 l0 l1 HP
          cases ha : atm us ts x y
          · rw [ha] at HS
            rw [if_neg (by decide), Nat.or_zero] at HS
            clear ha
            go_wp2
            go_roundw
            case rel => exact ⟨y + 1, by omega, by go_num, by rw [HS.out], HO3.out, HB3.out⟩
            case measure => simp [intOf]; omega
          · rw [ha] at HS
            rw [if_pos rfl] at HS
            have e2 := i64_or_nat q (2 ^ y) (by omega) (two_pow_lt (by omega))
            rw [← cast_two_pow] at e2
            clear ha
            go_wp2_with fail
            refine (spec_l01One _ _ (by omega) (by omega)).mono ?_
            rintro e w9 ⟨rfl, rfl⟩
            rw [Int.toNat_natCast]
            go_wp2
            go_roundw
            case rel => exact ⟨y + 1, by omega, by go_num, by rw [HS.out], HO3.out, HB3.out⟩
            case measure => simp [intOf]; omega
        · obtain rfl : y = ks.length := by omega
          have hsz := HBy.out.size
          have HL := Lib.hid (show (li (lnk x ks.length p)).length = x by rw [li_length, lnk_length])
          have HE := Lib.hid (lnk_succ x ks.length p)
          generalize msk (p x) ks.length = q at *
          generalize li (lnk x ks.length p) = xs at *
          clear k0 l0 l1
          go_wp2_with (at_builtin; refine stopHere ?_)
          refine goHere ?_
          refine ap_one (K := cI) _ ty_int64 rfl _ _ rfl (xs := xs) rfl HO.out (q : Int) rfl rfl (by rw [HL.out]; omega) hsz ?_
          intro v1 w1 ho1 hg1 hb1 hat1
          have O1 := Lib.hid ho1
          have HB1 := Lib.hid (HBy.out.trans hb1)
          clear ho1 hg1 hb1 hat1 k1
          go_wp2
          go_roundw
          case rel => exact ⟨x + 1, by omega, by go_num, by rw [HE.out]; exact O1.out, HB1.out⟩
          case measure => simp [intOf]; omega
    · obtain rfl : x = ns.length := by omega
      have hs := ho.mono HB.out.size
      have HSS := Lib.hid hs
      clear ho hs hb hk2
      go_wp2
      go_ret
      exact ⟨_, _, rfl, HSS.out, bthen HB.out HBx.out⟩
set_option maxRecDepth 100000 in
theorem spec_l07Step (ns us ks ts lk : List Nat) (A0 A1 B0 B1 : Option Addr) (c0 c1 d0 d1 : Nat) (v : Value) (w : World) (hm : Mdl w (.slice A0 ns.length c0) (.slice A1 6 c1) ns us) (hm2 : Mdl w (.slice B0 ks.length d0) (.slice B1 6 d1) ks ts) (h1 : MdN ns us) (h2 : MdN ks ts) (h : Sl cI w v (li lk)) (hl : lk.length = ns.length) (hlt : ∀ x ∈ lk, x < 2 ^ 8) :
    Calls Try.prog 144 #[.agg #[.int .i64 ns.length, .slice A0 ns.length c0, .slice A1 6 c1], .agg #[.int .i64 ks.length, .slice B0 ks.length d0, .slice B1 6 d1], v] w
      fun e w' => ∃ A c, e = .returned (.slice A ns.length c) ∧ Ow cI 2 w.heap.size w' (.slice A ns.length c) (li (lnk ns.length ks.length (hol ns us ks ts lk))) ∧ Below w.heap.size w w' := by
  have h8 := h1.r.1
  have hk8 := h2.r.1
  have hb0 := below_alloc' w (.cells #[.int .i64 ns.length, .slice A0 ns.length c0, .slice A1 6 c1] 62)
  have hk0 := Blk.new w 62 #[.int .i64 ns.length, .slice A0 ns.length c0, .slice A1 6 c1]
  have hb1 := below_alloc' (w.alloc (.cells #[.int .i64 ns.length, .slice A0 ns.length c0, .slice A1 6 c1] 62)) (.cells #[.int .i64 ks.length, .slice B0 ks.length d0, .slice B1 6 d1] 62)
  have hk1 : Blk _ (w.heap.size + 1) _ _ := Blk.new' (w.alloc (.cells #[.int .i64 ns.length, .slice A0 ns.length c0, .slice A1 6 c1] 62)) 62 #[.int .i64 ks.length, .slice B0 ks.length d0, .slice B1 6 d1] (by simp)
  have HB := Lib.hid (bthen hb0 hb1)
  have HK0 := Lib.hid (hk0.below hb1 hk0.lt)
  have HK1 := Lib.hid hk1
  have HN := Lib.hid (hm.a)
  have HKs := Lib.hid (hm2.a)
  have H1 := Lib.hid h1
  have H2 := Lib.hid h2
  have LN := Lib.hid (li_length ns)
  have LK := Lib.hid (li_length ks)
  have HT := Lib.hid (fun W (hW : Below w.heap.size w W) (x y : Nat) (hx : x ≤ 60) (hy : y ≤ 60) => spec_l07Atoms ns.length ks.length A0 B0 ns.length ks.length c0 d0 _ _ us ts x y W (hm.u.below hW) (hm2.u.below hW) h1.l h2.l h1.u256 h2.u256 hx hy)
  have HF := Lib.hid (fun W (hW : Below w.heap.size w W) (a b : Nat) (ha : a < 256) (hb : b < 256) => spec_l07Forth v lk a b W (h.below hW) (by omega) hlt ha hb)
  have HG := Lib.hid (fun W (hW : Below w.heap.size w W) (a b : Nat) (ha : a < 256) (hb : b < 256) => spec_l07Back v lk a b W (h.below hW) (by omega) hlt ha hb)
  clear h hlt hl
  clear hb0 hb1 hk0 hk1 hm hm2 h1 h2
  obtain ⟨p, hp⟩ : ∃ p, p = hol ns us ks ts lk := ⟨_, rfl⟩
  rw [← hp]
  have EP := Lib.hid hp
  clear hp
  go_enter Try.func144, Try.ntmps144
  go_upto_region 1 with fail
  generalize World.alloc (w.alloc _) _ = W at *
  go_wp2
  go_loopw [7, 8] (fun v i wr => ∃ j : Nat, j ≤ ns.length ∧ i = .int .i64 j ∧ Ow cI 2 W.heap.size wr v (li (lnk j ks.length p)) ∧ Below W.heap.size W wr) (fun _ i _ => ns.length - (intOf i).toNat)
  case atStart => exact ⟨0, Nat.zero_le _, rfl, Ow.lit [] rfl rfl (Nat.le_refl _), (Below.refl _ _).alloc (Nat.le_refl _) _⟩
  case round =>
    obtain ⟨x, hx, rfl, ho, hb⟩ := hrel
    obtain ⟨Ao, co, rfl⟩ := ho.opn
    have hLx : (li (lnk x ks.length p)).length = x := by rw [li_length, lnk_length]
    rw [hLx] at ho ⊢
    clear hLx
    have hk2 := HK0.out.below hb HK0.out.lt
    have k2 := hk2.cell
    have HO := Lib.hid ho
    have HBx := Lib.hid hb
    by_cases hxn : x < ns.length
    · clear ho hb hk2
      go_wp2
      clear k2
      go_loopw [9, 10] (fun t i wq => ∃ j : Nat, j ≤ ks.length ∧ i = .int .i64 j ∧ t = .int .i64 (msk (p x) j : Nat) ∧ Ow cI 2 W.heap.size wq (.slice Ao x co) (li (lnk x ks.length p)) ∧ Below W.heap.size W wq) (fun _ i _ => ks.length - (intOf i).toNat)
      case atStart => exact ⟨0, Nat.zero_le _, rfl, rfl, HO.out, HBx.out⟩
      case round =>
        obtain ⟨y, hy, rfl, rfl, ho, hb⟩ := hrel
        clear HO HBx
        have HO := Lib.hid ho
        have HBy := Lib.hid hb
        have hk0 := HK0.out.below hb HK0.out.lt
        have hk1 := HK1.out.below hb HK1.out.lt
        have k0 := hk0.cell
        have k1 := hk1.cell
        have l0 := hk0.lt
        have l1 := hk1.lt
        clear ho hb hk0 hk1
        by_cases hyk : y < ks.length
        · have HP : Hid (p x y = (atm us ts x y && (frt lk (ns.getD x 0) (ks.getD y 0) && bck lk (ns.getD x 0) (ks.getD y 0)))) := Lib.hid (by rw [EP.out]; rfl)
          have HS : Hid (msk (p x) (y + 1) = msk (p x) y ||| if p x y = true then 2 ^ y else 0) := Lib.hid rfl
          have hq := msk_bound (p x) hy hk8
          generalize msk (p x) y = q at *
          rw [HP.out] at HS
          have hx' : x < (li ns).length := by rw [LN.out]; exact hxn
          have hy' : y < (li ks).length := by rw [LK.out]; exact hyk
          obtain ⟨b, o, rfl, hbl, hc0⟩ := (HN.out.below (bthen HB.out HBy.out)).atI hx'
          obtain ⟨b5, o5, rfl, hbl5, hc5⟩ := (HKs.out.below (bthen HB.out HBy.out)).atI hy'
          rw [li_get] at hc0 hc5
          have ha2 := H1.out.n256 x
          have hb2 := H2.out.n256 y
          generalize ns.getD x 0 = a at *
          generalize ks.getD y 0 = bb at *
          go_wp2
          go_quiet (fail)
          have HO2 := Lib.hid (fun q => HO.out.below (below_drewN (Below.refl _ _) q))
          have HB2 := Lib.hid (fun q => below_drewN HBy.out q)
          clear hc0 hc5
          go_wp2_with fail
          refine (HT.out _ (bthen HB.out (HB2.out _)) x y (by omega) (by omega)).mono ?_
          rintro e w3 ⟨rfl, hb⟩
          have HO3 := Lib.hid ((HO2.out _).below hb)
          have HB3 := Lib.hid ((HB2.out _).trans (hb.mono (HB2.out _).size))
          clear hb k0 k1 l0 l1 HO2 HB2 HP
          cases ha : atm us ts x y
          · rw [ha, Bool.false_and] at HS
            rw [if_neg (by decide), Nat.or_zero] at HS
            clear ha
            go_wp2
            go_roundw
            case rel => exact ⟨y + 1, by omega, by go_num, by rw [HS.out], HO3.out, HB3.out⟩
            case measure => simp [intOf]; omega
          · rw [ha, Bool.true_and] at HS
            clear ha
            go_wp2_with fail
            refine (HF.out _ (bthen HB.out HB3.out) a bb ha2 hb2).mono ?_
            rintro e w4 ⟨rfl, rfl⟩
            cases hf : frt lk a bb
            · rw [hf, Bool.false_and] at HS
              rw [if_neg (by decide), Nat.or_zero] at HS
              clear hf
              go_wp2
              go_roundw
              case rel => exact ⟨y + 1, by omega, by go_num, by rw [HS.out], HO3.out, HB3.out⟩
              case measure => simp [intOf]; omega
            · rw [hf, Bool.true_and] at HS
              clear hf
              go_wp2_with fail
              refine (HG.out _ (bthen HB.out HB3.out) a bb ha2 hb2).mono ?_
              rintro e w5 ⟨rfl, rfl⟩
              cases hg : bck lk a bb
              · rw [hg] at HS
                rw [if_neg (by decide), Nat.or_zero] at HS
                clear hg
                go_wp2
                go_roundw
                case rel => exact ⟨y + 1, by omega, by go_num, by rw [HS.out], HO3.out, HB3.out⟩
                case measure => simp [intOf]; omega
              · rw [hg] at HS
                rw [if_pos rfl] at HS
                have e2 := i64_or_nat q (2 ^ y) (by omega) (two_pow_lt (by omega))
                rw [← cast_two_pow] at e2
                clear hg
                go_wp2_with fail
                refine (spec_l01One _ _ (by omega) (by omega)).mono ?_
                rintro e w9 ⟨rfl, rfl⟩
                rw [Int.toNat_natCast]
                go_wp2
                go_roundw
                case rel => exact ⟨y + 1, by omega, by go_num, by rw [HS.out], HO3.out, HB3.out⟩
                case measure => simp [intOf]; omega
        · obtain rfl : y = ks.length := by omega
          have hsz := HBy.out.size
          have HL := Lib.hid (show (li (lnk x ks.length p)).length = x by rw [li_length, lnk_length])
          have HE := Lib.hid (lnk_succ x ks.length p)
          generalize msk (p x) ks.length = q at *
          generalize li (lnk x ks.length p) = xs at *
          clear k0 l0 l1
          go_wp2_with (at_builtin; refine stopHere ?_)
          refine goHere ?_
          refine ap_one (K := cI) _ ty_int64 rfl _ _ rfl (xs := xs) rfl HO.out (q : Int) rfl rfl (by rw [HL.out]; omega) hsz ?_
          intro v1 w1 ho1 hg1 hb1 hat1
          have O1 := Lib.hid ho1
          have HB1 := Lib.hid (HBy.out.trans hb1)
          clear ho1 hg1 hb1 hat1 k1
          go_wp2
          go_roundw
          case rel => exact ⟨x + 1, by omega, by go_num, by rw [HE.out]; exact O1.out, HB1.out⟩
          case measure => simp [intOf]; omega
    · obtain rfl : x = ns.length := by omega
      have hs := ho.mono HB.out.size
      have HSS := Lib.hid hs
      clear ho hs hb hk2
      go_wp2
      go_ret
      exact ⟨_, _, rfl, HSS.out, bthen HB.out HBx.out⟩
end Go.Proofs.Ytgdmfihnbbgcoaa

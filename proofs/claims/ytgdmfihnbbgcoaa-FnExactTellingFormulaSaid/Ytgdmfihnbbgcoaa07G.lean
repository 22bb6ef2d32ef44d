/- Contracts of chapter 7, of the reference: a telling formula, from a table. -/
import Derived.Test.YtgdmfihnbbgcoaaM07U
import Derived.Test.Ytgdmfihnbbgcoaa07F
namespace Go.Proofs.Ytgdmfihnbbgcoaa
open Go.RowKit
set_option linter.unusedVariables false
set_option linter.unusedSimpArgs false
theorem OwL.base {α : Type} {K : Cod α} {t : TypeId} {B : Nat} {w : World} {v : Value} {xss : List (List α)} (h : OwL K t B w v xss) : ∀ k, v.ownBlock = some k → B ≤ k := by
  obtain ⟨hs, h1, -⟩ := h
  exact fun k hk => (h1.block k hk).1
/-- a table of formulas, to be read -/
def TdR (w : World) (vt : Value) (N K : Nat) (T : Nat → Nat → Option (List Nd)) : Prop :=
  ∃ rows : List Hd, Sl cH w vt rows ∧ rows.length = N ∧ ∀ i (hi : i < rows.length), ∃ cs : List Hd, Sl cH w rows[i].val cs ∧ cs.length = K ∧ ∀ j (hj : j < cs.length), Sl cN w cs[j].val ((T i j).getD []) ∧ ∀ k, cs[j].val.ownBlock = some k → k < w.heap.size
theorem TdR.below {w w' : World} {vt : Value} {N K : Nat} {T : Nat → Nat → Option (List Nd)} (h : TdR w vt N K T) (hb : Below w.heap.size w w') : TdR w' vt N K T := by
  obtain ⟨rows, h1, h2, h3⟩ := h
  refine ⟨rows, h1.below hb, h2, fun i hi => ?_⟩
  obtain ⟨cs, h4, h5, h6⟩ := h3 i hi
  exact ⟨cs, h4.below hb, h5, fun j hj => ⟨(h6 j hj).1.below hb, fun k hk => Nat.lt_of_lt_of_le ((h6 j hj).2 k hk) hb.size⟩⟩
theorem TdR.opn {w : World} {vt : Value} {N K : Nat} {T : Nat → Nat → Option (List Nd)} (h : TdR w vt N K T) : ∃ A c, vt = .slice A N c := by
  obtain ⟨rows, h1, h2, -⟩ := h
  obtain ⟨A, c, e⟩ := h1.opn
  exact ⟨A, c, by rw [← h2]; exact e⟩
theorem TdR.at_ {w : World} {A : Option Addr} {n c N K : Nat} {T : Nat → Nat → Option (List Nd)} (h : TdR w (.slice A n c) N K T) {i j : Nat} (hi : i < N) (hj : j < K) :
    ∃ b o b2 o2 cr Ae ce, A = some ⟨b, o, none⟩ ∧ b < w.heap.size ∧ w.cell? ⟨b, o + i, none⟩ = some (.slice (some ⟨b2, o2, none⟩) K cr) ∧ b2 < w.heap.size ∧ w.cell? ⟨b2, o2 + j, none⟩ = some (.slice Ae ((T i j).getD []).length ce) ∧
      Sl cN w (.slice Ae ((T i j).getD []).length ce) ((T i j).getD []) ∧ ∀ k, (Value.slice Ae ((T i j).getD []).length ce).ownBlock = some k → k < w.heap.size := by
  obtain ⟨rows, h1, h2, h3⟩ := h
  have hi' : i < rows.length := by omega
  obtain ⟨cs, h4, h5, h6⟩ := h3 i hi'
  have hj' : j < cs.length := by omega
  obtain ⟨b, o, e1, hb, hc⟩ := h1.cell hi'
  have hc0 := hc 0 rows[i].val rfl
  obtain ⟨Ar, cr, er⟩ := h4.opn
  rw [er] at h4 hc0
  obtain ⟨b2, o2, e2, hb2, hc2⟩ := h4.cell hj'
  have hc20 := hc2 0 cs[j].val rfl
  obtain ⟨h7, h8⟩ := h6 j hj'
  obtain ⟨Ae, ce, ee⟩ := h7.opn
  rw [ee] at h7 h8 hc20
  subst e2
  refine ⟨b, o, b2, o2, cr, Ae, ce, e1, hb, ?_, hb2, ?_, h7, h8⟩
  · rw [← h5]; simpa [cH] using hc0
  · simpa [cH] using hc20
theorem spec_l02AllA (op : Int) (v : Value) (xss : List (List Nd)) (w : World) (h : Sl2 cN w v xss) (hl : xss.length ≤ 262144) (hs : xss.flatten.length ≤ 262144) :
    Calls Try.prog 214 #[.int .i64 op, v] w fun e w' => ∃ u, e = .returned u ∧ Ow cN 89 w.heap.size w' u (joinA op xss) ∧ Below w.heap.size w w' := by
  unfold joinA
  split
  · rename_i h0
    rw [List.length_eq_zero_iff] at h0
    subst h0
    exact spec_l02All_nil op v w h
  · exact spec_l02All op v xss w h (by omega) hl hs
theorem i64_and_bit (a b : Nat) (ha : a < 256) (hb : b < 256) : bits .and .i64 (a : Int) (b : Int) = ((a &&& b : Nat) : Int) := i64_and_nat a b (by omega) (by omega)
set_option maxRecDepth 100000 in
set_option maxHeartbeats 2000000 in
theorem spec_l07Tell_succ (ns us ks ts : List Nat) (A0 A1 B0 B1 L At : Option Addr) (c0 c1 d0 d1 lc ct x y κ : Nat) (T : Nat → Nat → Option (List Nd)) (w : World) (hm : Mdl w (.slice A0 ns.length c0) (.slice A1 6 c1) ns us) (hm2 : Mdl w (.slice B0 ks.length d0) (.slice B1 6 d1) ks ts) (h1 : MdN ns us) (h2 : MdN ks ts) (hx : x < ns.length) (hy : y < ks.length) (hrd : rd ns us ks ts x y = some (κ + 1))
    (hL : Sl2 cI w (.slice L 17 lc) (bdL ns us ks ts 16)) (hT : TdR w (.slice At ns.length ct) ns.length ks.length T) (hTT : ∀ i j k', i < ns.length → j < ks.length → rd ns us ks ts i j = some k' → k' ≤ κ → T i j = tab ns us ks ts κ i j) :
    Calls Try.prog 146 #[.agg #[.int .i64 ns.length, .slice A0 ns.length c0, .slice A1 6 c1], .agg #[.int .i64 ks.length, .slice B0 ks.length d0, .slice B1 6 d1], .slice L 17 lc, .slice At ns.length ct, .int .i64 x, .int .i64 y, .int .i64 (κ + 1 : Nat)] w
      fun e w' => ∃ u, e = .returned u ∧ Ow cN 89 w.heap.size w' u ((tab ns us ks ts (κ + 1) x y).getD []) ∧ Below w.heap.size w w' := by
  have h8 := h1.r.1
  have hk8 := h2.r.1
  obtain ⟨hκ, -, -⟩ := rd_spec hrd
  have hb0 := below_alloc' w (.cells #[.int .i64 ns.length, .slice A0 ns.length c0, .slice A1 6 c1] 62)
  have hk0 := Blk.new w 62 #[.int .i64 ns.length, .slice A0 ns.length c0, .slice A1 6 c1]
  have hb1 := below_alloc' (w.alloc (.cells #[.int .i64 ns.length, .slice A0 ns.length c0, .slice A1 6 c1] 62)) (.cells #[.int .i64 ks.length, .slice B0 ks.length d0, .slice B1 6 d1] 62)
  have hk1 : Blk _ (w.heap.size + 1) _ _ := Blk.new' (w.alloc (.cells #[.int .i64 ns.length, .slice A0 ns.length c0, .slice A1 6 c1] 62)) 62 #[.int .i64 ks.length, .slice B0 ks.length d0, .slice B1 6 d1] (by simp)
  have HB := Lib.hid (bthen hb0 hb1)
  have HK0 := Lib.hid (hk0.below hb1 hk0.lt)
  have HK1 := Lib.hid hk1
  have HM := Lib.hid ((hm.below hb0).below hb1)
  have HM2 := Lib.hid ((hm2.below hb0).below hb1)
  have HTd := Lib.hid ((hT.below hb0).below hb1)
  have HL := Lib.hid ((hL.below hb0).below hb1)
  have hx9 : ns.getD x 0 < 2 ^ ns.length := getD_lt h1.r.2 x
  have hy9 : ks.getD y 0 < 2 ^ ks.length := getD_lt h2.r.2 y
  have hmx := h1.n256 x
  have hmy := h2.n256 y
  have HEx : Hid (ns[x]'hx = ns.getD x 0) := Lib.hid (by simp [List.getD_eq_getElem?_getD, hx])
  have HEy : Hid (ks[y]'hy = ks.getD y 0) := Lib.hid (by simp [List.getD_eq_getElem?_getD, hy])
  have hlkl := bnd_length ns us ks ts κ
  have HLk := Lib.hid (fun i => bnd_256 (ns := ns) (us := us) (ks := ks) (ts := ts) hk8 κ i)
  have HLon := Lib.hid (lon_find (ns := ns) (ks := ks) (lk := bnd ns us ks ts κ) (x := x) (y := y) hx9 (by omega))
  have HMis : Hid (miss ns ks (bnd ns us ks ts κ) x y = (List.range ks.length).find? fun j => (ks.getD y 0).testBit j && decide (colm (bnd ns us ks ts κ) j &&& ns.getD x 0 = 0)) := Lib.hid (by
    rw [miss_find hy9 (by omega)]
    congr 1
    funext j
    rw [colm_img (by rw [hlkl]; exact hx9)])
  have HS1 : Hid (∀ s, lonW ns ks (bnd ns us ks ts κ) x y = some s → tab ns us ks ts (κ + 1) x y = joi 6 2 (pkd (ks.getD y 0) (fun j => T s j) ks.length) ∧ ∀ o ∈ pkd (ks.getD y 0) (fun j => T s j) ks.length, ∀ xs, o = some xs → 0 < xs.length ∧ xs.length ≤ 40) := Lib.hid fun s hs => by
    have h5 := (lonW_some (k := κ) (by omega) hs).2.2
    rw [pkd_end _ hy9 (by omega)]
    refine ⟨?_, fun o ho xs hx => ?_⟩
    · rw [tab, if_pos hrd, tstep, hs]
      exact congrArg (joi 6 2) (List.map_congr_left fun j hj => by
        obtain ⟨k', hk', hr'⟩ := h5 j hj
        exact (hTT s j k' (bit_lt hx9 (lonW_some (k := κ) (by omega) hs).2.1) (bit_lt hy9 (mn_mem.1 hj).2) hr' hk').symm)
    · obtain ⟨j, hj, rfl⟩ := List.mem_map.1 ho
      obtain ⟨k', hk', hr'⟩ := h5 j hj
      rw [hTT s j k' (bit_lt hx9 (lonW_some (k := κ) (by omega) hs).2.1) (bit_lt hy9 (mn_mem.1 hj).2) hr' hk'] at hx
      exact tab_len κ hx
  have HS2 : Hid (lonW ns ks (bnd ns us ks ts κ) x y = none → ∃ j, miss ns ks (bnd ns us ks ts κ) x y = some j) := Lib.hid fun hn => rd_succ h1.r.2 h2.r.2 h8 hk8 hx hy hrd hn
  have HS3 : Hid (∀ j, lonW ns ks (bnd ns us ks ts κ) x y = none → miss ns ks (bnd ns us ks ts κ) x y = some j → tab ns us ks ts (κ + 1) x y = joi 5 3 (pkd (ns.getD x 0) (fun i => T i j) ns.length) ∧ ∀ o ∈ pkd (ns.getD x 0) (fun i => T i j) ns.length, ∀ xs, o = some xs → 0 < xs.length ∧ xs.length ≤ 40) := Lib.hid fun j hn hj => by
    have h5 := (miss_some (k := κ) (by omega) (by omega) h1.r.2 hj).2.2
    rw [pkd_end _ hx9 (by omega)]
    refine ⟨?_, fun o ho xs hx => ?_⟩
    · rw [tab, if_pos hrd, tstep, hn]
      dsimp only
      rw [hj]
      exact congrArg (joi 5 3) (List.map_congr_left fun i hi => by
        obtain ⟨k', hk', hr'⟩ := h5 i hi
        exact (hTT i j k' (bit_lt hx9 (mn_mem.1 hi).2) (bit_lt hy9 (miss_some (k := κ) (by omega) (by omega) h1.r.2 hj).2.1) hr' hk').symm)
    · obtain ⟨i, hi, rfl⟩ := List.mem_map.1 ho
      obtain ⟨k', hk', hr'⟩ := h5 i hi
      rw [hTT i j k' (bit_lt hx9 (mn_mem.1 hi).2) (bit_lt hy9 (miss_some (k := κ) (by omega) (by omega) h1.r.2 hj).2.1) hr' hk'] at hx
      exact tab_len κ hx
  have hbb := HL.out
  rw [show (bdL ns us ks ts 16) = bdL ns us ks ts 16 from rfl] at hbb
  clear hb0 hb1 hk0 hk1 hm hm2 hT hL hrd hTT h1 h2
  generalize tab ns us ks ts (κ + 1) x y = RES at *
  generalize hlk : bnd ns us ks ts κ = lk at *
  have HLkE := Lib.hid hlk
  clear hlk hbb
  generalize ns.getD x 0 = mx at *
  generalize ks.getD y 0 = my at *
  obtain ⟨kk, hkk⟩ : ∃ kk, κ + 1 = kk := ⟨_, rfl⟩
  rw [hkk]
  have hkz : (((kk : Nat) : Int) == 0) = false := beq_eq_false_iff_ne.2 (by omega)
  have hsub : ((kk : Nat) : Int) - 1 = (κ : Int) := by omega
  have hk17 : kk < 17 := by omega
  go_enter Try.func146, Try.ntmps146
  go_upto_region 1 with fail
  generalize World.alloc (w.alloc _) _ = W at *
  have k0 : W.cell? ⟨w.heap.size, 0, none⟩ = some (.int .i64 ns.length) := HK0.out.cell 0
  have k1 : W.cell? ⟨w.heap.size, 1, none⟩ = some (.slice A0 ns.length c0) := HK0.out.cell 1
  have j0 : W.cell? ⟨w.heap.size + 1, 0, none⟩ = some (.int .i64 ks.length) := HK1.out.cell 0
  have j1 : W.cell? ⟨w.heap.size + 1, 1, none⟩ = some (.slice B0 ks.length d0) := HK1.out.cell 1
  have l0 := HK0.out.lt
  have l1 := HK1.out.lt
  have hma := HM.out.a
  have hna := HM2.out.a
  obtain ⟨bm, om, e1, hbm, hcm⟩ := li_at hma hx
  obtain ⟨bn, on, e2, hbn, hcn⟩ := li_at hna hy
  subst e1
  subst e2
  rw [HEx.out] at hcm
  rw [HEy.out] at hcn
  clear hma hna
  have hll := HL.out
  obtain ⟨bl, ol, Ai, ni, ci, e3, hbl, hcl, hsl⟩ := hll.at_ (k := κ) (by rw [bdL_length]; omega)
  subst e3
  rw [bdL_get, HLkE.out] at hsl
  obtain ⟨Ai', ci', e4⟩ := hsl.opn
  rw [li_length, hlkl] at e4
  obtain ⟨rfl, rfl, rfl⟩ : Ai = Ai' ∧ ni = ns.length ∧ ci = ci' := by injection e4 with a1 a2 a3; exact ⟨a1, a2, a3⟩
  have HSl := Lib.hid hsl
  clear hll hsl e4
  go_wp2
  go_quiet (fail)
  have HBq : Hid (Below W.heap.size W (W.drewN nq)) := Lib.hid (below_drewN (Below.refl _ _) nq)
  have hOL : OwL cN 26 W.heap.size ((W.drewN nq).alloc (.cells #[] 26)) (.slice (some ⟨W.heap.size, 0, none⟩) 0 0) ([] : List (List Nd)) := ⟨[], Ow.lit (w := W.drewN nq) (K := cH) [] rfl rfl (Nat.le_refl _), rfl, fun i a => (by simp at a)⟩
  have HOL := Lib.hid hOL
  have HBa : Hid (Below W.heap.size W ((W.drewN nq).alloc (.cells #[] 26))) := Lib.hid (bthen HBq.out (below_alloc' _ _))
  clear hOL
  go_wp2
  go_loopw [22, 24, 25, 26] (fun q f i _ wr => ∃ j : Nat, j ≤ ns.length ∧ i = .int .i64 j ∧ Below W.heap.size W wr ∧ ((f = .bool false ∧ OwL cN 26 W.heap.size wr q [] ∧ ∀ s, s < j → (mx.testBit s && decide (lk.getD s 0 &&& my = 0)) = false) ∨ (f = .bool true ∧ ∃ s, lonW ns ks lk x y = some s ∧ OwL cN 26 W.heap.size wr q ((pkd my (fun j => T s j) ks.length).map fun o => o.getD [])))) (fun _ _ i _ _ => ns.length - (intOf i).toNat)
  case atStart => exact ⟨0, Nat.zero_le _, rfl, HBa.out, .inl ⟨rfl, HOL.out, fun s hs => by omega⟩⟩
  case round =>
    obtain ⟨j, hj, rfl, hbw, ⟨rfl, ho, hh⟩ | ⟨rfl, s, hs, ho⟩⟩ := hrel
    · have HBw := Lib.hid hbw
      have HO := Lib.hid ho
      have HH := Lib.hid hh
      have k0' := (hbw.cell (p := ⟨w.heap.size, 0, none⟩) l0).trans k0
      have j0' := (hbw.cell (p := ⟨w.heap.size + 1, 0, none⟩) l1).trans j0
      have l0' := Nat.lt_of_lt_of_le l0 hbw.size
      have l1' := Nat.lt_of_lt_of_le l1 hbw.size
      by_cases hlt : j < ns.length
      · have hcl' := (hbw.cell (p := ⟨bl, ol + κ, none⟩) hbl).trans hcl
        have hbl' := Nat.lt_of_lt_of_le hbl hbw.size
        have hslw := HSl.out.below hbw
        obtain ⟨b5, o5, e5, hb5, hc5⟩ := li_at hslw (k := j) (by rw [hlkl]; exact hlt)
        subst e5
        have eg : lk[j]'(by rw [hlkl]; exact hlt) = lk.getD j 0 := by simp [List.getD_eq_getElem?_getD, show j < lk.length by rw [hlkl]; exact hlt]
        rw [eg] at hc5
        have hq := HLk.out j
        have HBit := Lib.hid (spec_l01Bit mx j wr (by omega) (by omega))
        have HNext : Hid ((mx.testBit j && decide (lk.getD j 0 &&& my = 0)) = false → ∀ s, s < j + 1 → (mx.testBit s && decide (lk.getD s 0 &&& my = 0)) = false) := Lib.hid fun h0 s hs => by
          by_cases e : s = j
          · rw [e]; exact h0
          · exact HH.out s (by omega)
        have HFound : Hid ((mx.testBit j && decide (lk.getD j 0 &&& my = 0)) = true → lonW ns ks lk x y = some j) := Lib.hid fun h0 => by
          rw [HLon.out, List.find?_range_eq_some]
          exact ⟨h0, List.mem_range.2 hlt, fun s hs => by rw [HH.out s hs]; rfl⟩
        have and1 := i64_and_bit (lk.getD j 0) my hq hmy
        obtain ⟨z, hz⟩ : ∃ z, mx.testBit j = z := ⟨_, rfl⟩
        rw [hz] at HBit HNext HFound
        generalize lk.getD j 0 = a at *
        clear hbw ho hh hz hslw eg
        cases z
        · have HN := Lib.hid (HNext.out rfl)
          go_wp2_with fail
          refine HBit.out.mono ?_
          rintro e w2 ⟨rfl, rfl⟩
          go_wp2
          go_roundw
          case rel => exact ⟨j + 1, by omega, by go_num, HBw.out, .inl ⟨rfl, HO.out, HN.out⟩⟩
          case measure => simp [intOf]; omega
        · by_cases h0 : a &&& my = 0
          · have HF := Lib.hid (HFound.out (by rw [h0]; rfl))
            rw [h0] at and1
            have h00 : (((0 : Nat) : Int) != 0) = false := rfl
            go_wp2_with fail
            refine HBit.out.mono ?_
            rintro e w2 ⟨rfl, rfl⟩

            go_wp2
            go_loopw [22, 26] (fun q t wr2 => ∃ n : Nat, n ≤ ks.length ∧ t = .int .i64 n ∧ Below W.heap.size W wr2 ∧ OwL cN 26 W.heap.size wr2 q ((pkd my (fun i => T j i) n).map fun o => o.getD [])) (fun _ t _ => ks.length - (intOf t).toNat)
            case atStart => exact ⟨0, Nat.zero_le _, rfl, HBw.out, HO.out⟩
            case round =>
              obtain ⟨n, hn, rfl, hbw, ho⟩ := hrel
              have HBv := Lib.hid hbw
              have HOv := Lib.hid ho
              have j0v := (hbw.cell (p := ⟨w.heap.size + 1, 0, none⟩) l1).trans j0
              have l1v := Nat.lt_of_lt_of_le l1 hbw.size
              by_cases hltn : n < ks.length
              · have hTd := HTd.out
                obtain ⟨b6, o6, b7, o7, cr, Ae, ce, e6, hb6, hc6, hb7, hc7, hse, hke⟩ := hTd.at_ hlt hltn
                subst e6
                have hc6' := (hbw.cell (p := ⟨b6, o6 + j, none⟩) hb6).trans hc6
                have hc7' := (hbw.cell (p := ⟨b7, o7 + n, none⟩) hb7).trans hc7
                have hb6' := Nat.lt_of_lt_of_le hb6 hbw.size
                have hb7' := Nat.lt_of_lt_of_le hb7 hbw.size
                have hsz := hbw.size
                have hse' := hse.below hbw
                have HLo := Lib.hid (fun k hk => hke k hk)
                have HSe := Lib.hid hse'
                have HBit2 := Lib.hid (spec_l01Bit my n wr (by omega) (by omega))
                have HPk := Lib.hid (pkd_succ my (fun i => T j i) n)
                have HPl : Hid ((pkd my (fun i => T j i) n).length ≤ n) := Lib.hid (by unfold pkd; rw [List.length_map]; exact Nat.le_trans (List.length_filter_le _ _) (by simp))
                obtain ⟨z2, hz2⟩ : ∃ z, my.testBit n = z := ⟨_, rfl⟩
                rw [hz2] at HBit2 HPk
                clear hbw ho hTd hc6 hc7 hse hse' hke hz2
                have HP0 : Hid (z2 = false → (pkd my (fun i => T j i) (n + 1)).map (fun o => o.getD []) = (pkd my (fun i => T j i) n).map fun o => o.getD []) := Lib.hid fun h0 => by rw [HPk.out, h0]; rfl
                have HP1 : Hid (z2 = true → (pkd my (fun i => T j i) (n + 1)).map (fun o => o.getD []) = ((pkd my (fun i => T j i) n).map fun o => o.getD []) ++ [(T j n).getD []]) := Lib.hid fun h0 => by rw [HPk.out, h0]; simp
                have HPm : Hid (((pkd my (fun i => T j i) n).map fun o => o.getD []).length ≤ n) := Lib.hid (by rw [List.length_map]; exact HPl.out)
                generalize (T j n).getD [] = row at *
                generalize (pkd my (fun i => T j i) n).map (fun o => o.getD []) = pts at *
                cases z2
                · have HPe := Lib.hid (HP0.out rfl)
                  go_wp2_with fail
                  refine HBit2.out.mono ?_
                  rintro e w2 ⟨rfl, rfl⟩
                  go_wp2
                  go_roundw
                  case rel => exact ⟨n + 1, by omega, by go_num, HBv.out, by rw [HPe.out]; exact HOv.out⟩
                  case measure => simp [intOf]; omega
                · have HPe := Lib.hid (HP1.out rfl)
                  go_wp2_with fail
                  refine HBit2.out.mono ?_
                  rintro e w2 ⟨rfl, rfl⟩
                  obtain ⟨hs7, h71, h72, h73⟩ := HOv.out.push HSe.out (fun k hk => ⟨Nat.lt_of_lt_of_le (HLo.out k hk) hsz, fun e => by have a1 := HOv.out.base k e; have a2 := HLo.out k hk; omega⟩)
                  have H71 := Lib.hid h71
                  have H73 := Lib.hid h73
                  have hpm := HPm.out
                  clear h71 h73
                  go_wp2_with (at_builtin; refine stopHere ?_)
                  refine goHere ?_
                  refine ap_one (K := cH) _ ty_nodes7 rfl _ _ rfl (xs := hs7) rfl H71.out ⟨Ae, row.length, ce⟩ rfl rfl (by omega) hsz ?_
                  intro v1 w6 ho1 hg1 hb1 hat1
                  have HO6 := Lib.hid (H73.out w6 v1 _ (World.grownBy_alloc _ _ none) (by simp) ho1 hg1 hat1)
                  have HB6 : Hid (Below W.heap.size W w6) := Lib.hid (HBv.out.trans hb1)
                  clear ho1 hg1 hb1 hat1 H71 H73
                  go_wp2
                  go_roundw
                  case rel => exact ⟨n + 1, by omega, by go_num, HB6.out, by rw [HPe.out]; exact HO6.out⟩
                  case measure => simp [intOf]; omega
              · obtain rfl : n = ks.length := by omega
                clear hbw ho
                go_wp2
                go_roundw
                case rel => exact ⟨j + 1, by omega, by go_num, HBv.out, .inr ⟨rfl, j, HF.out, HOv.out⟩⟩
                case measure => simp [intOf]; omega
          · have HN := Lib.hid (HNext.out (by rw [decide_eq_false h0]; rfl))
            have h00 : (((a &&& my : Nat) : Int) != 0) = true := by simp; omega
            generalize a &&& my = r at *
            go_wp2_with fail
            refine HBit.out.mono ?_
            rintro e w2 ⟨rfl, rfl⟩
            go_wp2
            go_roundw
            case rel => exact ⟨j + 1, by omega, by go_num, HBw.out, .inl ⟨rfl, HO.out, HN.out⟩⟩
            case measure => simp [intOf]; omega
      · obtain rfl : j = ns.length := by omega
        have HNone : Hid (lonW ns ks lk x y = none) := Lib.hid (by
          rw [HLon.out, List.find?_eq_none]
          intro s hs
          rw [HH.out s (List.mem_range.1 hs)]; decide)
        have HMt := Lib.hid (HS2.out HNone.out)
        clear hbw ho hh
        generalize wr = w4 at *
        go_wp2
        go_loopw [20, 21, 22, 24, 27, 28] (fun kd jn q f i _ wr2 => ∃ j : Nat, j ≤ ks.length ∧ i = .int .i64 j ∧ Below W.heap.size W wr2 ∧ ((f = .bool false ∧ kd = .int .i64 6 ∧ jn = .int .i64 2 ∧ OwL cN 26 W.heap.size wr2 q [] ∧ ∀ s, s < j → (my.testBit s && decide (colm lk s &&& mx = 0)) = false) ∨ (f = .bool true ∧ kd = .int .i64 5 ∧ jn = .int .i64 3 ∧ ∃ s, miss ns ks lk x y = some s ∧ OwL cN 26 W.heap.size wr2 q ((pkd mx (fun i => T i s) ns.length).map fun o => o.getD [])))) (fun _ _ _ _ i _ _ => ks.length - (intOf i).toNat)
        case atStart => exact ⟨0, Nat.zero_le _, rfl, HBw.out, .inl ⟨rfl, rfl, rfl, HO.out, fun s hs => by omega⟩⟩
        case round =>
          obtain ⟨j, hj, rfl, hbw, ⟨rfl, rfl, rfl, ho, hh⟩ | ⟨rfl, rfl, rfl, s, hs, ho⟩⟩ := hrel
          · have HBw := Lib.hid hbw
            have HO := Lib.hid ho
            have HH := Lib.hid hh
            have k0' := (hbw.cell (p := ⟨w.heap.size, 0, none⟩) l0).trans k0
            have j0' := (hbw.cell (p := ⟨w.heap.size + 1, 0, none⟩) l1).trans j0
            have l0' := Nat.lt_of_lt_of_le l0 hbw.size
            have l1' := Nat.lt_of_lt_of_le l1 hbw.size
            by_cases hlt : j < ks.length
            · have hcl' := (hbw.cell (p := ⟨bl, ol + κ, none⟩) hbl).trans hcl
              have hbl' := Nat.lt_of_lt_of_le hbl hbw.size
              have hslw := HSl.out.below hbw
              have HBit := Lib.hid (spec_l01Bit my j wr (by omega) (by omega))
              have HCol := Lib.hid (spec_l07Column lk j _ wr hslw (by rw [hlkl]; exact h8) HLk.out (by omega))
              have hq : colm lk j < 256 := msk_bound _ (by rw [hlkl]; exact h8) (by omega)
              have HNext : Hid ((my.testBit j && decide (colm lk j &&& mx = 0)) = false → ∀ s, s < j + 1 → (my.testBit s && decide (colm lk s &&& mx = 0)) = false) := Lib.hid fun h0 s hs => by
                by_cases e : s = j
                · rw [e]; exact h0
                · exact HH.out s (by omega)
              have HFound : Hid ((my.testBit j && decide (colm lk j &&& mx = 0)) = true → miss ns ks lk x y = some j) := Lib.hid fun h0 => by
                rw [HMis.out, List.find?_range_eq_some]
                exact ⟨h0, List.mem_range.2 hlt, fun s hs => by rw [HH.out s hs]; rfl⟩
              have and1 := i64_and_bit (colm lk j) mx hq hmx
              obtain ⟨z, hz⟩ : ∃ z, my.testBit j = z := ⟨_, rfl⟩
              rw [hz] at HBit HNext HFound
              generalize colm lk j = a at *
              clear hbw ho hh hz hslw
              cases z
              · have HN := Lib.hid (HNext.out rfl)
                go_wp2_with fail
                refine HBit.out.mono ?_
                rintro e w2 ⟨rfl, rfl⟩
                go_wp2
                go_roundw
                case rel => exact ⟨j + 1, by omega, by go_num, HBw.out, .inl ⟨rfl, rfl, rfl, HO.out, HN.out⟩⟩
                case measure => simp [intOf]; omega
              · by_cases h0 : a &&& mx = 0
                · have HF := Lib.hid (HFound.out (by rw [h0]; rfl))
                  rw [h0] at and1
                  have h00 : (((0 : Nat) : Int) != 0) = false := rfl
                  go_wp2_with fail
                  refine HBit.out.mono ?_
                  rintro e w2 ⟨rfl, rfl⟩
                  go_wp2_with fail
                  refine HCol.out.mono ?_
                  rintro e w2 ⟨rfl, rfl⟩
                  generalize wr = w5 at *
                  go_wp2
                  go_loopw [22, 28] (fun q t wr2 => ∃ n : Nat, n ≤ ns.length ∧ t = .int .i64 n ∧ Below W.heap.size W wr2 ∧ OwL cN 26 W.heap.size wr2 q ((pkd mx (fun i => T i j) n).map fun o => o.getD [])) (fun _ t _ => ns.length - (intOf t).toNat)
                  case atStart => exact ⟨0, Nat.zero_le _, rfl, HBw.out, HO.out⟩
                  case round =>
                    obtain ⟨n, hn, rfl, hbw, ho⟩ := hrel
                    have HBv := Lib.hid hbw
                    have HOv := Lib.hid ho
                    have k0v := (hbw.cell (p := ⟨w.heap.size, 0, none⟩) l0).trans k0
                    have l0v := Nat.lt_of_lt_of_le l0 hbw.size
                    by_cases hltn : n < ns.length
                    · have hTd := HTd.out
                      obtain ⟨b6, o6, b7, o7, cr, Ae, ce, e6, hb6, hc6, hb7, hc7, hse, hke⟩ := hTd.at_ hltn hlt
                      subst e6
                      have hc6' := (hbw.cell (p := ⟨b6, o6 + n, none⟩) hb6).trans hc6
                      have hc7' := (hbw.cell (p := ⟨b7, o7 + j, none⟩) hb7).trans hc7
                      have hb6' := Nat.lt_of_lt_of_le hb6 hbw.size
                      have hb7' := Nat.lt_of_lt_of_le hb7 hbw.size
                      have hsz := hbw.size
                      have hse' := hse.below hbw
                      have HLo := Lib.hid (fun k hk => hke k hk)
                      have HSe := Lib.hid hse'
                      have HBit2 := Lib.hid (spec_l01Bit mx n wr (by omega) (by omega))
                      have HPk := Lib.hid (pkd_succ mx (fun i => T i j) n)
                      have HPl : Hid ((pkd mx (fun i => T i j) n).length ≤ n) := Lib.hid (by unfold pkd; rw [List.length_map]; exact Nat.le_trans (List.length_filter_le _ _) (by simp))
                      obtain ⟨z2, hz2⟩ : ∃ z, mx.testBit n = z := ⟨_, rfl⟩
                      rw [hz2] at HBit2 HPk
                      clear hbw ho hTd hc6 hc7 hse hse' hke hz2
                      have HP0 : Hid (z2 = false → (pkd mx (fun i => T i j) (n + 1)).map (fun o => o.getD []) = (pkd mx (fun i => T i j) n).map fun o => o.getD []) := Lib.hid fun h0 => by rw [HPk.out, h0]; rfl
                      have HP1 : Hid (z2 = true → (pkd mx (fun i => T i j) (n + 1)).map (fun o => o.getD []) = ((pkd mx (fun i => T i j) n).map fun o => o.getD []) ++ [(T n j).getD []]) := Lib.hid fun h0 => by rw [HPk.out, h0]; simp
                      have HPm : Hid (((pkd mx (fun i => T i j) n).map fun o => o.getD []).length ≤ n) := Lib.hid (by rw [List.length_map]; exact HPl.out)
                      generalize (T n j).getD [] = row at *
                      generalize (pkd mx (fun i => T i j) n).map (fun o => o.getD []) = pts at *
                      cases z2
                      · have HPe := Lib.hid (HP0.out rfl)
                        go_wp2_with fail
                        refine HBit2.out.mono ?_
                        rintro e w2 ⟨rfl, rfl⟩
                        go_wp2
                        go_roundw
                        case rel => exact ⟨n + 1, by omega, by go_num, HBv.out, by rw [HPe.out]; exact HOv.out⟩
                        case measure => simp [intOf]; omega
                      · have HPe := Lib.hid (HP1.out rfl)
                        go_wp2_with fail
                        refine HBit2.out.mono ?_
                        rintro e w2 ⟨rfl, rfl⟩
                        obtain ⟨hs7, h71, h72, h73⟩ := HOv.out.push HSe.out (fun k hk => ⟨Nat.lt_of_lt_of_le (HLo.out k hk) hsz, fun e => by have a1 := HOv.out.base k e; have a2 := HLo.out k hk; omega⟩)
                        have H71 := Lib.hid h71
                        have H73 := Lib.hid h73
                        have hpm := HPm.out
                        clear h71 h73
                        go_wp2_with (at_builtin; refine stopHere ?_)
                        refine goHere ?_
                        refine ap_one (K := cH) _ ty_nodes7 rfl _ _ rfl (xs := hs7) rfl H71.out ⟨Ae, row.length, ce⟩ rfl rfl (by omega) hsz ?_
                        intro v1 w6 ho1 hg1 hb1 hat1
                        have HO6 := Lib.hid (H73.out w6 v1 _ (World.grownBy_alloc _ _ none) (by simp) ho1 hg1 hat1)
                        have HB6 : Hid (Below W.heap.size W w6) := Lib.hid (HBv.out.trans hb1)
                        clear ho1 hg1 hb1 hat1 H71 H73
                        go_wp2
                        go_roundw
                        case rel => exact ⟨n + 1, by omega, by go_num, HB6.out, by rw [HPe.out]; exact HO6.out⟩
                        case measure => simp [intOf]; omega
                    · obtain rfl : n = ns.length := by omega
                      clear hbw ho
                      go_wp2
                      go_roundw
                      case rel => exact ⟨j + 1, by omega, by go_num, HBv.out, .inr ⟨rfl, rfl, rfl, j, HF.out, HOv.out⟩⟩
                      case measure => simp [intOf]; omega
                · have HN := Lib.hid (HNext.out (by rw [decide_eq_false h0]; rfl))
                  have h00 : (((a &&& mx : Nat) : Int) != 0) = true := by simp; omega
                  generalize a &&& mx = r at *
                  go_wp2_with fail
                  refine HBit.out.mono ?_
                  rintro e w2 ⟨rfl, rfl⟩
                  go_wp2_with fail
                  refine HCol.out.mono ?_
                  rintro e w2 ⟨rfl, rfl⟩
                  go_wp2
                  go_roundw
                  case rel => exact ⟨j + 1, by omega, by go_num, HBw.out, .inl ⟨rfl, rfl, rfl, HO.out, HN.out⟩⟩
                  case measure => simp [intOf]; omega
            · obtain rfl : j = ks.length := by omega
              obtain ⟨s, hs⟩ := HMt.out
              rw [HMis.out] at hs
              have h7 := List.find?_some hs
              have h8 := List.mem_range.1 (List.mem_of_find?_eq_some hs)
              rw [HH.out s h8] at h7
              cases h7
          · have HBe := Lib.hid hbw
            obtain ⟨HRx, HEx⟩ : (RES = joi 5 3 (pkd mx (fun i => T i s) ns.length)) ∧ ∀ o ∈ pkd mx (fun i => T i s) ns.length, ∀ xs, o = some xs → 0 < xs.length ∧ xs.length ≤ 40 := HS3.out s HNone.out hs
            have HPl8 : (pkd mx (fun i => T i s) ns.length).length ≤ ns.length := by unfold pkd; rw [List.length_map]; exact Nat.le_trans (List.length_filter_le _ _) (by simp)
            rw [joi_yss fun o ho xs hx => (HEx o ho xs hx).1, joiY] at HRx
            have HFx : ((pkd mx (fun i => T i s) ns.length).map fun o => o.getD []).flatten.length ≤ 40 * ((pkd mx (fun i => T i s) ns.length).map fun o => o.getD []).length := flat_le40 _ fun xs hx => by
              obtain ⟨o, ho, rfl⟩ := List.mem_map.1 hx
              cases o with
              | none => simp
              | some q => exact (HEx _ ho q rfl).2
            have HPm : ((pkd mx (fun i => T i s) ns.length).map fun o => o.getD []).length ≤ 8 := by rw [List.length_map]; omega
            generalize ((pkd mx (fun i => T i s) ns.length).map fun o => o.getD []) = yss at *
            have HRy := Lib.hid HRx
            have HFl : Hid (yss.flatten.length ≤ 320) := Lib.hid (by omega)
            have HPn := Lib.hid HPm
            clear HRx HEx HPl8 HFx HPm
            have HOe := Lib.hid ho
            obtain ⟨Aq, cq, rfl⟩ := ho.sl2.opn
            have k0' := (hbw.cell (p := ⟨w.heap.size, 0, none⟩) l0).trans k0
            have j0' := (hbw.cell (p := ⟨w.heap.size + 1, 0, none⟩) l1).trans j0
            have l0' := Nat.lt_of_lt_of_le l0 hbw.size
            have l1' := Nat.lt_of_lt_of_le l1 hbw.size
            clear hbw ho
            generalize wr = wo at *
            by_cases hjn : j < ks.length
            all_goals
              have HYl : Hid (yss.length ≤ 8) := HPn
              have HRes : Hid (RES = if yss.any (fun y => y.length == 0) then none else if ((5, (0 : Int)) :: joinA 3 yss).length ≤ 40 then some ((5, 0) :: joinA 3 yss) else none) := HRy
              go_wp2
              go_loopw [23, 29] (fun lg i wr3 => ∃ n : Nat, n ≤ yss.length ∧ i = .int .i64 n ∧ lg = .bool ((yss.take n).any fun y => y.length == 0) ∧ Below wo.heap.size wo wr3) (fun _ i _ => yss.length - (intOf i).toNat)
              case atStart => exact ⟨0, Nat.zero_le _, rfl, rfl, Below.refl _ _⟩
              case round =>
                obtain ⟨n, hn, rfl, rfl, hbz⟩ := hrel
                have hY8 := HYl.out
                have HBz := Lib.hid hbz
                have HOz := Lib.hid (HOe.out.below hbz)
                by_cases hltn : n < yss.length
                · have hs2 := HOz.out.sl2
                  obtain ⟨b8, o8, Ai8, ci8, e8, hb8, hc8, hs8⟩ := hs2.atM hltn
                  subst e8
                  have HSu := Lib.hid (any_take_succ (fun y : List Nd => y.length == 0) yss n hltn)
                  generalize (yss.take n).any (fun y => y.length == 0) = g at *
                  generalize hm : (yss[n]'hltn).length = m at *
                  have HM := Lib.hid hm
                  clear hbz hs2 hs8 hm
                  cases g
                  · by_cases h0 : m = 0
                    · have HG : Hid (((yss.take (n + 1)).any fun y => y.length == 0) = true) := Lib.hid (by rw [HSu.out, h0]; rfl)
                      subst h0
                      go_wp2
                      go_roundw
                      case rel => exact ⟨n + 1, by omega, by go_num, by rw [HG.out], HBz.out⟩
                      case measure => simp [intOf]; omega
                    · have HG : Hid (((yss.take (n + 1)).any fun y => y.length == 0) = false) := Lib.hid (by rw [HSu.out]; simpa using h0)
                      have h00 : (((m : Nat) : Int) == 0) = false := beq_eq_false_iff_ne.2 (by omega)
                      go_wp2
                      go_roundw
                      case rel => exact ⟨n + 1, by omega, by go_num, by rw [HG.out], HBz.out⟩
                      case measure => simp [intOf]; omega
                  · have HG : Hid (((yss.take (n + 1)).any fun y => y.length == 0) = true) := Lib.hid (by rw [HSu.out]; rfl)
                    go_wp2
                    go_roundw
                    case rel => exact ⟨n + 1, by omega, by go_num, by rw [HG.out], HBz.out⟩
                    case measure => simp [intOf]; omega
                · obtain rfl : n = yss.length := by omega
                  rw [List.take_length]
                  have HS2z := Lib.hid HOz.out.sl2
                  have HBw3 : Hid (Below w.heap.size w wr) := Lib.hid (bthen (bthen HB.out HBe.out) HBz.out)
                  generalize yss.any (fun y => y.length == 0) = g at *
                  cases g
                  · have HR2 : Hid (RES = if ((5, (0 : Int)) :: joinA 3 yss).length ≤ 40 then some ((5, 0) :: joinA 3 yss) else none) := Lib.hid (by rw [HRes.out]; rfl)
                    have HAl := Lib.hid (spec_l02AllA 3 _ yss wr HS2z.out (by have := HYl.out; omega) (by have := HFl.out; omega))
                    clear hbz
                    go_wp2_with fail
                    refine HAl.out.mono ?_
                    rintro e w2 ⟨u2, rfl, ho, hb⟩
                    have hj : (joinA 3 yss).length ≤ 1000 := by
                      have h1 := HFl.out
                      have h2 := HYl.out
                      unfold joinA
                      split
                      · unfold joinE; split <;> simp
                      · rw [joinL_length]; omega
                    have HJ := Lib.hid hj
                    have HPre := Lib.hid (spec_l02Pre 5 u2 _ w2 ho.sl (by omega))
                    have HB8 := Lib.hid (bthen HBw3.out hb)
                    clear ho hb hj
                    go_wp2_with fail
                    refine HPre.out.mono ?_
                    rintro e w3 ⟨u3, rfl, ho, hb⟩
                    obtain ⟨A9, c9, rfl⟩ := ho.opn
                    have HO9 := Lib.hid (ho.mono HB8.out.size)
                    have HB9 := Lib.hid (bthen HB8.out hb)
                    clear ho hb
                    generalize ((5, (0 : Int)) :: joinA 3 yss) = res at *
                    by_cases h40 : res.length ≤ 40
                    · have HR3 : Hid (RES = some res) := Lib.hid (by rw [HR2.out, if_pos h40])
                      go_wp2
                      go_ret
                      exact ⟨_, rfl, by rw [HR3.out]; exact HO9.out, HB9.out⟩
                    · have HR3 : Hid (RES = none) := Lib.hid (by rw [HR2.out, if_neg h40])
                      go_wp2
                      go_ret
                      exact ⟨_, rfl, by rw [HR3.out]; exact Ow.nil _ _, HB9.out⟩
                  · have HR2 : Hid (RES = none) := Lib.hid (by rw [HRes.out]; rfl)
                    clear hbz
                    go_wp2
                    go_ret
                    exact ⟨_, rfl, by rw [HR2.out]; exact Ow.nil _ _, HBw3.out⟩
    · have HBe := Lib.hid hbw
      obtain ⟨HRx, HEx⟩ : (RES = joi 6 2 (pkd my (fun j => T s j) ks.length)) ∧ ∀ o ∈ pkd my (fun j => T s j) ks.length, ∀ xs, o = some xs → 0 < xs.length ∧ xs.length ≤ 40 := HS1.out s hs
      have HPl8 : (pkd my (fun j => T s j) ks.length).length ≤ ks.length := by unfold pkd; rw [List.length_map]; exact Nat.le_trans (List.length_filter_le _ _) (by simp)
      rw [joi_yss fun o ho xs hx => (HEx o ho xs hx).1, joiY] at HRx
      have HFx : ((pkd my (fun j => T s j) ks.length).map fun o => o.getD []).flatten.length ≤ 40 * ((pkd my (fun j => T s j) ks.length).map fun o => o.getD []).length := flat_le40 _ fun xs hx => by
        obtain ⟨o, ho, rfl⟩ := List.mem_map.1 hx
        cases o with
        | none => simp
        | some q => exact (HEx _ ho q rfl).2
      have HPm : ((pkd my (fun j => T s j) ks.length).map fun o => o.getD []).length ≤ 8 := by rw [List.length_map]; omega
      generalize ((pkd my (fun j => T s j) ks.length).map fun o => o.getD []) = yss at *
      have HRy := Lib.hid HRx
      have HFl : Hid (yss.flatten.length ≤ 320) := Lib.hid (by omega)
      have HPn := Lib.hid HPm
      clear HRx HEx HPl8 HFx HPm
      have HOe := Lib.hid ho
      obtain ⟨Aq, cq, rfl⟩ := ho.sl2.opn
      have k0' := (hbw.cell (p := ⟨w.heap.size, 0, none⟩) l0).trans k0
      have j0' := (hbw.cell (p := ⟨w.heap.size + 1, 0, none⟩) l1).trans j0
      have l0' := Nat.lt_of_lt_of_le l0 hbw.size
      have l1' := Nat.lt_of_lt_of_le l1 hbw.size
      clear hbw ho
      generalize wr = wo at *
      clear HS1 HS2 HS3 HLon HMis HTd HM HM2 HSl HL HLk HLkE HOL HBa HBq HEx HEy HK0 HK1 hs hcm hcn hcl k1 j1 k0 j0
      by_cases hjn : j < ns.length
      all_goals
        go_wp2
        go_loopw [20, 21, 22, 24, 27, 28] (fun kd jn q f i _ wr2 => kd = .int .i64 6 ∧ jn = .int .i64 2 ∧ q = .slice Aq yss.length cq ∧ f = .bool true ∧ i = .int .i64 0 ∧ wr2 = wo) (fun _ _ _ _ _ _ _ => 0)
        case atStart => exact ⟨rfl, rfl, rfl, rfl, rfl, rfl⟩
        case round =>
          obtain ⟨rfl, rfl, rfl, rfl, rfl, rfl⟩ := hrel
          generalize wr = wo at *
          have h0k : 0 < ks.length := by omega
          have h0k' : ((0 : Int) < (ks.length : Int)) := by omega
          have HYl : Hid (yss.length ≤ 8) := HPn
          have HRes : Hid (RES = if yss.any (fun y => y.length == 0) then none else if ((6, (0 : Int)) :: joinA 2 yss).length ≤ 40 then some ((6, 0) :: joinA 2 yss) else none) := HRy
          go_wp2
          go_loopw [23, 29] (fun lg i wr3 => ∃ n : Nat, n ≤ yss.length ∧ i = .int .i64 n ∧ lg = .bool ((yss.take n).any fun y => y.length == 0) ∧ Below wo.heap.size wo wr3) (fun _ i _ => yss.length - (intOf i).toNat)
          case atStart => exact ⟨0, Nat.zero_le _, rfl, rfl, Below.refl _ _⟩
          case round =>
            obtain ⟨n, hn, rfl, rfl, hbz⟩ := hrel
            have hY8 := HYl.out
            have HBz := Lib.hid hbz
            have HOz := Lib.hid (HOe.out.below hbz)
            by_cases hltn : n < yss.length
            · have hs2 := HOz.out.sl2
              obtain ⟨b8, o8, Ai8, ci8, e8, hb8, hc8, hs8⟩ := hs2.atM hltn
              subst e8
              have HSu := Lib.hid (any_take_succ (fun y : List Nd => y.length == 0) yss n hltn)
              generalize (yss.take n).any (fun y => y.length == 0) = g at *
              generalize hm : (yss[n]'hltn).length = m at *
              have HM := Lib.hid hm
              clear hbz hs2 hs8 hm
              cases g
              · by_cases h0 : m = 0
                · have HG : Hid (((yss.take (n + 1)).any fun y => y.length == 0) = true) := Lib.hid (by rw [HSu.out, h0]; rfl)
                  subst h0
                  go_wp2
                  go_roundw
                  case rel => exact ⟨n + 1, by omega, by go_num, by rw [HG.out], HBz.out⟩
                  case measure => simp [intOf]; omega
                · have HG : Hid (((yss.take (n + 1)).any fun y => y.length == 0) = false) := Lib.hid (by rw [HSu.out]; simpa using h0)
                  have h00 : (((m : Nat) : Int) == 0) = false := beq_eq_false_iff_ne.2 (by omega)
                  go_wp2
                  go_roundw
                  case rel => exact ⟨n + 1, by omega, by go_num, by rw [HG.out], HBz.out⟩
                  case measure => simp [intOf]; omega
              · have HG : Hid (((yss.take (n + 1)).any fun y => y.length == 0) = true) := Lib.hid (by rw [HSu.out]; rfl)
                go_wp2
                go_roundw
                case rel => exact ⟨n + 1, by omega, by go_num, by rw [HG.out], HBz.out⟩
                case measure => simp [intOf]; omega
            · obtain rfl : n = yss.length := by omega
              rw [List.take_length]
              have HS2z := Lib.hid HOz.out.sl2
              have HBw3 : Hid (Below w.heap.size w wr) := Lib.hid (bthen (bthen HB.out HBe.out) HBz.out)
              generalize yss.any (fun y => y.length == 0) = g at *
              cases g
              · have HR2 : Hid (RES = if ((6, (0 : Int)) :: joinA 2 yss).length ≤ 40 then some ((6, 0) :: joinA 2 yss) else none) := Lib.hid (by rw [HRes.out]; rfl)
                have HAl := Lib.hid (spec_l02AllA 2 _ yss wr HS2z.out (by have := HYl.out; omega) (by have := HFl.out; omega))
                clear hbz
                go_wp2_with fail
                refine HAl.out.mono ?_
                rintro e w2 ⟨u2, rfl, ho, hb⟩
                have hj : (joinA 2 yss).length ≤ 1000 := by
                  have h1 := HFl.out
                  have h2 := HYl.out
                  unfold joinA
                  split
                  · unfold joinE; split <;> simp
                  · rw [joinL_length]; omega
                have HJ := Lib.hid hj
                have HPre := Lib.hid (spec_l02Pre 6 u2 _ w2 ho.sl (by omega))
                have HB8 := Lib.hid (bthen HBw3.out hb)
                clear ho hb hj
                go_wp2_with fail
                refine HPre.out.mono ?_
                rintro e w3 ⟨u3, rfl, ho, hb⟩
                obtain ⟨A9, c9, rfl⟩ := ho.opn
                have HO9 := Lib.hid (ho.mono HB8.out.size)
                have HB9 := Lib.hid (bthen HB8.out hb)
                clear ho hb
                generalize ((6, (0 : Int)) :: joinA 2 yss) = res at *
                by_cases h40 : res.length ≤ 40
                · have HR3 : Hid (RES = some res) := Lib.hid (by rw [HR2.out, if_pos h40])
                  go_wp2
                  go_ret
                  exact ⟨_, rfl, by rw [HR3.out]; exact HO9.out, HB9.out⟩
                · have HR3 : Hid (RES = none) := Lib.hid (by rw [HR2.out, if_neg h40])
                  go_wp2
                  go_ret
                  exact ⟨_, rfl, by rw [HR3.out]; exact Ow.nil _ _, HB9.out⟩
              · have HR2 : Hid (RES = none) := Lib.hid (by rw [HRes.out]; rfl)
                clear hbz
                go_wp2
                go_ret
                exact ⟨_, rfl, by rw [HR2.out]; exact Ow.nil _ _, HBw3.out⟩
end Go.Proofs.Ytgdmfihnbbgcoaa

/- Contracts of the least renumbering, of the reference: l01Less. -/
import Derived.Test.YtkdldfomdbgcaaaGreat34O
namespace Go.Proofs.YtkdldfomdbgcaaaGreat
open Go.RowKit
set_option linter.unusedVariables false
set_option linter.unusedSimpArgs false
set_option maxRecDepth 100000 in
set_option maxHeartbeats 1000000 in
theorem spec_l01Less (xs ys : List Nat) (v u : Value) (w : World) (hx : Sl cI w v (li xs)) (hy : Sl cI w u (li ys)) (hl : xs.length ≤ 1000) (hl2 : ys.length ≤ 1000) :
    Calls Tryz.prog 73 #[v, u] w fun e w' => e = .returned (.bool (decide (cml xs ys < 0))) ∧ Below w.heap.size w w' := by
  obtain ⟨A, c, rfl⟩ := hx.opn
  obtain ⟨B, d, rfl⟩ := hy.opn
  rw [li_length] at hx ⊢
  rw [li_length] at hy ⊢
  have HX := Lib.hid hx
  have HY := Lib.hid hy
  have H0 : Hid (cml xs ys = cml (xs.drop 0) (ys.drop 0)) := Lib.hid rfl
  have HD := Lib.hid (cml_drop xs ys)
  have HA : Hid (∀ j, xs.length ≤ j → j < ys.length → cml (xs.drop j) (ys.drop j) = -1) := Lib.hid fun j h1 h2 => by
    rw [List.drop_eq_nil_of_le h1, List.drop_eq_getElem_cons h2]; rfl
  have HC : Hid (∀ j, xs.length ≤ j → ys.length ≤ j → cml (xs.drop j) (ys.drop j) = 0) := Lib.hid fun j h1 h2 => by
    rw [List.drop_eq_nil_of_le h1, List.drop_eq_nil_of_le h2]; rfl
  have HE : Hid (∀ j, j < xs.length → ys.length ≤ j → cml (xs.drop j) (ys.drop j) = 1) := Lib.hid fun j h1 h2 => by
    rw [List.drop_eq_nil_of_le h2, List.drop_eq_getElem_cons h1]; rfl
  clear hx hy
  generalize cml xs ys = res at *
  go_enter Tryz.func73, Tryz.ntmps73
  go_wp2
  go_loopw [5] (fun i wr => ∃ j : Nat, j ≤ xs.length ∧ j ≤ ys.length ∧ i = .int .i64 j ∧ res = cml (xs.drop j) (ys.drop j) ∧ Below w.heap.size w wr) (fun i _ => xs.length - (intOf i).toNat)
  case atStart => exact ⟨0, Nat.zero_le _, Nat.zero_le _, rfl, H0.out, Below.refl _ _⟩
  case round =>
    obtain ⟨j, hj, hj2, rfl, hr, hb⟩ := hrel
    have HR := Lib.hid hr
    have HB := Lib.hid hb
    clear hr H0
    by_cases hlt : j < xs.length
    · by_cases hlt2 : j < ys.length
      · obtain ⟨b1, o1, rfl, hb1, hc1⟩ := li_at4 (HX.out.below hb) hlt
        obtain ⟨b2, o2, rfl, hb2, hc2⟩ := li_at4 (HY.out.below hb) hlt2
        have HDj := Lib.hid (HD.out j hlt hlt2)
        rw [show xs[j] = xs.getD j 0 by simp [List.getD_eq_getElem?_getD, hlt]] at hc1
        rw [show ys[j] = ys.getD j 0 by simp [List.getD_eq_getElem?_getD, hlt2]] at hc2
        generalize xs.getD j 0 = a at *
        generalize ys.getD j 0 = b at *
        have i1 : (j : Int) < (xs.length : Int) := by omega
        have i2 : (j : Int) < (ys.length : Int) := by omega
        clear hb
        by_cases he : a = b
        · have HF : Hid (res = cml (xs.drop (j + 1)) (ys.drop (j + 1))) := Lib.hid (by rw [HR.out, HDj.out, if_neg (by omega), if_neg (by omega)])
          subst he
          go_wp2
          go_quiet (fail)
          clear hc1 hc2
          go_wp2
          go_roundw
          case rel => exact ⟨j + 1, by omega, by omega, by go_num, HF.out, below_drewN HB.out _⟩
          case measure => simp [intOf]; omega
        · have e1 : ((a : Int) != (b : Int)) = true := bne_iff_ne.2 (by omega)
          have HF : Hid (decide (res < 0) = decide (a < b)) := Lib.hid (by
            rw [HR.out, HDj.out]
            rcases Nat.lt_trichotomy a b with h | h | h
            · rw [if_pos h, decide_eq_true h]; rfl
            · exact absurd h he
            · rw [if_neg (by omega), if_pos h, decide_eq_false (show ¬ (1 : Int) < 0 by decide), decide_eq_false (show ¬ a < b by omega)])
          have e2 : decide ((a : Int) < (b : Int)) = decide (a < b) := by simp
          go_wp2
          go_quiet (fail)
          go_wp2
          go_quiet (fail)
          go_wp2
          go_ret
          exact ⟨by rw [HF.out, ← e2]; rfl, below_drewN (below_drewN HB.out _) _⟩
      · have HF : Hid (res = 1) := Lib.hid (by rw [HR.out, HE.out j hlt (by omega)])
        have i1 : (j : Int) < (xs.length : Int) := by omega
        have i2 : ¬ (j : Int) < (ys.length : Int) := by omega
        have i3 : ¬ (xs.length : Int) < (ys.length : Int) := by omega
        clear hb
        go_wp2
        go_ret
        exact ⟨by rw [HF.out]; rfl, HB.out⟩
    · obtain rfl : j = xs.length := by omega
      clear hb
      by_cases hlt2 : xs.length < ys.length
      · have HF : Hid (res = -1) := Lib.hid (by rw [HR.out, HA.out _ (Nat.le_refl _) hlt2])
        have i3 : (xs.length : Int) < (ys.length : Int) := by omega
        go_wp2
        go_ret
        exact ⟨by rw [HF.out]; rfl, HB.out⟩
      · have HF : Hid (res = 0) := Lib.hid (by rw [HR.out, HC.out _ (Nat.le_refl _) (by omega)])
        have i3 : ¬ (xs.length : Int) < (ys.length : Int) := by omega
        go_wp2
        go_ret
        exact ⟨by rw [HF.out]; rfl, HB.out⟩
theorem spec_l05SqueezeO (v : Value) (m : Nat) (ms : List Int) (w : World) (h : Sl cI w v ms) (hm : m < 256) (h8 : ms.length ≤ 8) (hx : ∀ x ∈ ms, ∃ i : Nat, x = i ∧ i < 8) :
    Calls Tryz.prog 113 #[v, .int .i64 m] w fun e w' => e = .returned (.int .i64 (sqTo m ms ms.length : Nat)) ∧ w = w' := by
  obtain ⟨R, hR⟩ : ∃ R, sqTo m ms ms.length = R := ⟨_, rfl⟩
  rw [hR]
  have HE := Lib.hid hR
  clear hR
  have HMM := Lib.hid hx
  clear hx
  have HST : Hid (∀ k, sqTo m ms (k + 1) = sqTo m ms k ||| if m.testBit (ms.getD k 0).toNat then 2 ^ k else 0) := Lib.hid fun k => rfl
  have HZ : Hid (sqTo m ms 0 = 0) := Lib.hid rfl
  have HLT := Lib.hid (sqTo_lt m ms)
  obtain ⟨A, c, rfl⟩ := h.opn
  go_enter Tryz.func113, Tryz.ntmps113
  go_wp2
  go_loop [5, 6] (fun t i => ∃ j : Nat, j ≤ ms.length ∧ i = .int .i64 j ∧ t = .int .i64 (sqTo m ms j : Nat)) (fun _ i => ms.length - (intOf i).toNat)
  case atStart => exact ⟨0, Nat.zero_le _, rfl, by rw [HZ.out]; rfl⟩
  case round =>
    obtain ⟨j, hj, rfl, rfl⟩ := hrel
    by_cases hlt : j < ms.length
    · obtain ⟨b, o, rfl, hbl, hc0⟩ := h.atI hlt
      obtain ⟨x, hxx, hxn⟩ := HMM.out ms[j] (List.getElem_mem hlt)
      have HS : Hid (sqTo m ms (j + 1) = sqTo m ms j ||| if m.testBit x then 2 ^ j else 0) := Lib.hid (by rw [HST.out, List.getD_eq_getElem?_getD, List.getElem?_eq_getElem hlt, Option.getD_some, hxx, Int.toNat_natCast])
      rw [hxx] at hc0
      have hq : sqTo m ms j < 256 := Nat.lt_of_lt_of_le (HLT.out j) (show 2 ^ j ≤ 2 ^ 8 from Nat.pow_le_pow_right (by omega) (by omega))
      clear hxx
      generalize sqTo m ms j = q at *
      go_wp2_with fail
      refine (spec_l01Bit m x _ (by omega) (by omega)).mono ?_
      rintro e w2 ⟨rfl, rfl⟩
      cases ht : m.testBit x
      · rw [ht] at HS
        clear ht
        go_wp2
        go_round
        case rel => exact ⟨j + 1, by omega, by go_num, by rw [HS.out]; simp⟩
        case measure => simp [intOf]; omega
      · rw [ht] at HS
        clear ht
        have e2 := i64_or_nat q (2 ^ j) (by omega) (two_pow_lt (by omega))
        rw [← cast_two_pow] at e2
        go_wp2_with fail
        refine (spec_l01One j _ (by omega) (by omega)).mono ?_
        rintro e w2 ⟨rfl, rfl⟩
        rw [Int.toNat_natCast]
        go_wp2
        go_round
        case rel => exact ⟨j + 1, by omega, by go_num, by rw [HS.out]; simp⟩
        case measure => simp [intOf]; omega
    · have HE2 : Hid (sqTo m ms j = R) := Lib.hid (by rw [← HE.out]; congr 1; omega)
      go_wp2
      go_ret
      exact ⟨by rw [HE2.out]; rfl, rfl⟩
theorem ren_take (ns o : List Nat) {j : Nat} (h : j < o.length) : (ren ns o).take (j + 1) = (ren ns o).take j ++ [sqTo (ns.getD (o.getD j 0) 0) (li o) o.length] := by
  rw [List.take_succ_eq_append_getElem (by rw [ren_length]; exact h)]
  congr 2
  simp [ren, h, List.getD_eq_getElem?_getD]
set_option maxRecDepth 100000 in
set_option maxHeartbeats 1000000 in
theorem spec_l05Renumber (ns o : List Nat) (v u : Value) (w : World) (h : Sl cI w v (li ns)) (h' : Sl cI w u (li o)) (hr : RelN ns) (ho : Ord ns.length o) (hl : o.length = ns.length) :
    Calls Tryz.prog 72 #[v, u] w fun e w' => ∃ A c, e = .returned (.slice A ns.length c) ∧ Ow cI 2 w.heap.size w' (.slice A ns.length c) (li (ren ns o)) ∧ Below w.heap.size w w' := by
  obtain ⟨A0, c0, rfl⟩ := h.opn
  obtain ⟨A1, c1, rfl⟩ := h'.opn
  have h8 := hr.1
  have EL := Lib.hid (li_length ns)
  have OL := Lib.hid (show (li o).length = ns.length by rw [li_length, hl])
  rw [EL.out] at h
  rw [OL.out] at h'
  rw [EL.out, OL.out]
  have HX := Lib.hid h
  have HO := Lib.hid h'
  have HN : Hid (∀ i, i < ns.length → o.getD i 0 < ns.length) := Lib.hid (fun i hi => ho.2 _ (getD_mem (by omega)))
  have HG : Hid (∀ x, ns.getD x 0 < 256) := Lib.hid (fun x => Nat.lt_of_lt_of_le (getD_lt hr.2 x) (two_pow_256 h8))
  have HQ := Lib.hid (fun m (hm : m < 256) W (hW : Sl cI W (.slice A1 ns.length c1) (li o)) => spec_l05SqueezeO _ m (li o) W hW hm (by rw [OL.out]; exact h8) (fun x hx => by
    unfold li at hx
    obtain ⟨y, hy, rfl⟩ := List.mem_map.1 hx
    exact ⟨y, rfl, Nat.lt_of_lt_of_le (ho.2 y hy) h8⟩))
  rw [OL.out] at HQ
  have HT : Hid (∀ j, j < ns.length → (ren ns o).take (j + 1) = (ren ns o).take j ++ [sqTo (ns.getD (o.getD j 0) 0) (li o) ns.length]) := Lib.hid (fun j hj => by rw [ren_take ns o (by omega), hl])
  have HT0 := Lib.hid (show (ren ns o).take ns.length = ren ns o from List.take_of_length_le (by rw [ren_length, hl]; exact Nat.le_refl _))
  have HTL := Lib.hid (fun (j : Nat) (hj : j ≤ ns.length) => show (li ((ren ns o).take j)).length = j by rw [li_length, List.length_take, ren_length, hl]; omega)
  clear h h' hr ho hl
  go_enter Tryz.func72, Tryz.ntmps72
  go_wp2
  go_loopw [5, 6] (fun v i wr => ∃ j : Nat, j ≤ ns.length ∧ i = .int .i64 j ∧ Ow cI 2 w.heap.size wr v (li ((ren ns o).take j)) ∧ Below w.heap.size w wr) (fun _ i _ => ns.length - (intOf i).toNat)
  case atStart => exact ⟨0, Nat.zero_le _, rfl, Ow.lit (K := cI) [] rfl rfl (Nat.le_refl _), below_alloc' _ _⟩
  case round =>
    obtain ⟨j, hj, rfl, hO, hb⟩ := hrel
    obtain ⟨w1, hw1⟩ : ∃ W, W = wr := ⟨_, rfl⟩
    subst hw1
    obtain ⟨A2, c2, rfl⟩ := hO.opn
    have HLx := Lib.hid (HTL.out j hj)
    rw [HLx.out] at hO ⊢
    have O := Lib.hid hO
    have HB := Lib.hid hb
    by_cases hlt : j < ns.length
    · obtain ⟨b, p, rfl, hbl, hcx⟩ := (HO.out.below hb).atI (k := j) (by rw [OL.out]; exact hlt)
      obtain ⟨d, q, rfl, hdl, hdx⟩ := (HX.out.below hb).atI (k := o.getD j 0) (by rw [EL.out]; exact HN.out j hlt)
      rw [li_get] at hcx hdx
      have hx := HN.out j hlt
      have hm := HG.out (o.getD j 0)
      have HE := Lib.hid (HT.out j hlt)
      have HSx := Lib.hid (HQ.out _ hm)
      have HO1 := Lib.hid (HO.out.below hb)
      have HLI1 : Hid (li ((ren ns o).take (j + 1)) = li ((ren ns o).take j) ++ [((sqTo (ns.getD (o.getD j 0) 0) (li o) ns.length : Nat) : Int)]) := Lib.hid (by rw [HE.out, li_append]; rfl)
      have i6 : (j : Int) < (ns.length : Int) := by omega
      generalize sqTo (ns.getD (o.getD j 0) 0) (li o) ns.length = r at *
      generalize ns.getD (o.getD j 0) 0 = m at *
      generalize o.getD j 0 = x at *
      generalize li ((ren ns o).take j) = L at *
      clear hO hb HE
      go_wp2_with fail
      refine (HSx.out _ HO1.out).mono ?_
      rintro e w3 ⟨rfl, rfl⟩
      clear hcx hdx
      go_wp2_with (at_builtin; refine stopHere ?_)
      refine goHere ?_
      refine ap_one (K := cI) _ ty_int64 rfl _ _ rfl (B := w.heap.size) (v := .slice A2 j c2) (xs := L) rfl O.out (r : Int) rfl rfl (by have := HLx.out; omega) HB.out.size ?_
      intro v1 w7 ho1 hg1 hb1 hat1
      have O1 := Lib.hid ho1
      have B1 := Lib.hid (HB.out.trans hb1)
      clear ho1 hg1 hb1 hat1
      go_wp2
      exact ⟨⟨j + 1, by omega, by go_num, by rw [HLI1.out]; exact O1.out, B1.out⟩, by simp [intOf]; omega⟩
    · obtain rfl : j = ns.length := by omega
      rw [HT0.out] at O
      clear hO hb
      go_wp2
      go_ret
      exact ⟨_, _, rfl, O.out, HB.out⟩
theorem cmf_lt (xs ys : List Nat) : decide (cmf xs ys < 0) = if xs.length = ys.length then decide (cml xs ys < 0) else decide (xs.length < ys.length) := by
  unfold cmf
  rw [cml]
  rcases Nat.lt_trichotomy xs.length ys.length with h | h | h
  · rw [if_pos h, if_neg (by omega), decide_eq_true h]; rfl
  · rw [if_neg (by omega), if_neg (by omega), if_pos h]
  · rw [if_neg (by omega), if_pos h, if_neg (by omega), decide_eq_false (show ¬ (1 : Int) < 0 by decide), decide_eq_false (show ¬ xs.length < ys.length by omega)]
set_option maxRecDepth 100000 in
set_option maxHeartbeats 1000000 in
theorem spec_l21Before (xs ys : List Nat) (v u : Value) (w : World) (hx : Sl cI w v (li xs)) (hy : Sl cI w u (li ys)) (hl : xs.length ≤ 1000) (hl2 : ys.length ≤ 1000) :
    Calls Tryz.prog 46 #[.agg #[.int .i64 (xs.length : Int), v], .agg #[.int .i64 (ys.length : Int), u]] w fun e w' => e = .returned (.bool (decide (cmf xs ys < 0))) ∧ Below w.heap.size w w' := by
  obtain ⟨A0, c0, rfl⟩ := hx.opn
  obtain ⟨A1, c1, rfl⟩ := hy.opn
  rw [li_length] at hx hy ⊢
  rw [li_length]
  have HL := Lib.hid (fun W (h1 : Sl cI W (.slice A0 xs.length c0) (li xs)) (h2 : Sl cI W (.slice A1 ys.length c1) (li ys)) => spec_l01Less xs ys _ _ W h1 h2 hl hl2)
  have HE := Lib.hid (cmf_lt xs ys)
  have HX := Lib.hid hx
  have HY := Lib.hid hy
  clear hx hy
  generalize decide (cmf xs ys < 0) = R at *
  generalize decide (cml xs ys < 0) = r at *
  go_enter Tryz.func46, Tryz.ntmps46
  go_upto_region 1 with fail
  have hb := bthen (below_alloc' w (.cells #[.int .i64 (xs.length : Int), .slice A0 xs.length c0] 29)) (below_alloc' (w.alloc (.cells #[.int .i64 (xs.length : Int), .slice A0 xs.length c0] 29)) (.cells #[.int .i64 (ys.length : Int), .slice A1 ys.length c1] 29))
  have K1 := Lib.hid ((Blk.new w 29 #[.int .i64 (xs.length : Int), .slice A0 xs.length c0]).alloc (.cells #[.int .i64 (ys.length : Int), .slice A1 ys.length c1] 29))
  have K2 := Lib.hid (Blk.new' (g := w.heap.size + 1) (w.alloc (.cells #[.int .i64 (xs.length : Int), .slice A0 xs.length c0] 29)) 29 #[.int .i64 (ys.length : Int), .slice A1 ys.length c1] (by simp))
  replace HX := Lib.hid (HX.out.below hb)
  replace HY := Lib.hid (HY.out.below hb)
  have HB := Lib.hid hb
  clear hb
  generalize World.alloc (World.alloc w _) _ = w1 at *
  have a0 := K1.out.cell 0
  have a1 := K1.out.cell 1
  have a2 := K1.out.lt
  have b0 := K2.out.cell 0
  have b1 := K2.out.cell 1
  have b2 := K2.out.lt
  by_cases he : xs.length = ys.length
  · rw [if_pos he] at HE
    have e1 : ((xs.length : Int) != (ys.length : Int)) = false := by rw [he]; simp
    clear he
    obtain rfl : R = r := HE.out
    go_wp2_with fail
    refine (HL.out _ HX.out HY.out).mono ?_
    rintro e w2 ⟨rfl, hb⟩
    have HB2 := Lib.hid (bthen HB.out hb)
    clear hb a0 a1 a2 b0 b1 b2
    go_wp2
    go_ret
    exact ⟨rfl, HB2.out⟩
  · rw [if_neg he] at HE
    have e1 : ((xs.length : Int) != (ys.length : Int)) = true := bne_iff_ne.2 (by omega)
    have e2 : Hid (decide ((xs.length : Int) < (ys.length : Int)) = decide (xs.length < ys.length)) := Lib.hid (by simp)
    clear he
    go_wp2
    go_ret
    exact ⟨by rw [HE.out, ← e2.out]; rfl, HB.out⟩
end Go.Proofs.YtkdldfomdbgcaaaGreat

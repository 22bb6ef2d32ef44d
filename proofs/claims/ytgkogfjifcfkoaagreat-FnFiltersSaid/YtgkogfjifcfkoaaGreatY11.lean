/- Heyting algebras, of the reference: l18Leq, l18Order, l18Low, l18Partial, l01Inverse of up to thirty elements. -/
import Derived.Test.YtgkogfjifcfkoaaGreatY10
namespace Go.Proofs.YtgkogfjifcfkoaaGreat
open Go.RowKit
set_option linter.unusedVariables false
set_option linter.unusedSimpArgs false
/-- an entry is read -/
theorem ent_at {w : World} {A0 : Option Addr} {m c : Nat} {n : Nat} {A : List (List Nat)} (h : Sl2 cI w (.slice A0 m c) (lil A)) (hT : TabN n A) {x y : Nat} (hx : x < n) (hy : y < n) :
    ∃ b o d q cj, A0 = some ⟨b, o, none⟩ ∧ b < w.heap.size ∧ w.cell? ⟨b, o + x, none⟩ = some (.slice (some ⟨d, q, none⟩) n cj) ∧ d < w.heap.size ∧ w.cell? ⟨d, q + y, none⟩ = some (.int .i64 (ent A x y : Nat)) := by
  have hl := hT.l
  obtain ⟨b, o, Aj, nj, cj, rfl, hbl, hcj, hsj⟩ := h.at_ (k := x) (by rw [lil_length]; omega)
  rw [lil_get] at hsj
  have hm : A[x]'(by omega) ∈ A := List.getElem_mem _
  obtain ⟨h1, h2⟩ := hT.r _ hm
  have hnj : nj = n := by
    obtain ⟨A', c', hv⟩ := hsj.opn
    rw [li_length, h1] at hv
    injection hv
  subst hnj
  obtain ⟨d, q, rfl, hdl, hdj⟩ := hsj.atI (k := y) (by rw [li_length]; omega)
  rw [li_get] at hdj
  refine ⟨b, o, d, q, cj, rfl, hbl, hcj, hdl, ?_⟩
  rw [hdj]
  unfold ent
  rw [List.getD_eq_getElem?_getD (l := A), List.getElem?_eq_getElem (by omega)]
  rfl
set_option maxRecDepth 100000 in
theorem spec_l18Leq (a o i : Value) (b t : Int) (A : List (List Nat)) (n x y : Nat) (w : World) (h : Sl2 cI w a (lil A)) (hT : TabN n A) (hx : x < n) (hy : y < n) (hn : n ≤ 30) :
    Calls Tryz.prog 162 #[.agg #[a, o, i, .int .i64 b, .int .i64 t], .int .i64 (x : Int), .int .i64 (y : Int)] w fun e w' => e = .returned (.bool (decide (ent A x y = x))) ∧ Below w.heap.size w w' := by
  obtain ⟨A0, c0, rfl⟩ := h.opn
  have hlen : (lil A).length = n := by rw [lil_length, hT.l]
  rw [hlen] at h ⊢
  have hb := below_alloc' w (.cells #[.slice A0 n c0, o, i, .int .i64 b, .int .i64 t] 26)
  obtain ⟨b1, o1, d, q, cj, rfl, hb1, hc1, hd1, hc2⟩ := ent_at h hT hx hy
  have HC1 := Lib.hid ((hb.cell (p := ⟨b1, o1 + x, none⟩) hb1).trans hc1)
  have HC2 := Lib.hid ((hb.cell (p := ⟨d, q + y, none⟩) hd1).trans hc2)
  have HB := Lib.hid hb
  have HE := Lib.hid (eqI (ent A x y) x)
  clear h hb hc1 hc2 hlen
  generalize ent A x y = z at *
  go_enter Tryz.func162, Tryz.ntmps162
  have hc1 := HC1.out
  have hc2 := HC2.out
  go_wp2
  go_ret
  exact ⟨by rw [HE.out]; rfl, HB.out⟩
set_option maxHeartbeats 1000000 in
set_option maxRecDepth 100000 in
theorem spec_l18Order (a o i : Value) (b t : Int) (A : List (List Nat)) (n : Nat) (w : World) (h : Sl2 cI w a (lil A)) (hT : TabN n A) (hn : n ≤ 30) :
    Calls Tryz.prog 113 #[.agg #[a, o, i, .int .i64 b, .int .i64 t]] w fun e w' => ∃ u, e = .returned u ∧ Ow cI 2 w.heap.size w' u (li (ordH A)) ∧ Below w.heap.size w w' := by
  obtain ⟨A0, c0, rfl⟩ := h.opn
  have HLn := Lib.hid (show (lil A).length = n by rw [lil_length, hT.l])
  have HAl := Lib.hid hT.l
  rw [HLn.out] at h ⊢
  have HA := Lib.hid h
  have A' := Lib.hid (Below.refl w.heap.size w)
  have HSz := Lib.hid (fun W (hW : Sl2 cI W (.slice A0 n c0) (lil A)) => HLn.out ▸ spec_l18Size (.slice A0 n c0) o i b t (lil A) W hW)
  have HLq := Lib.hid (fun x y W (hW : Sl2 cI W (.slice A0 n c0) (lil A)) hx hy => spec_l18Leq (.slice A0 n c0) o i b t A n x y W hW hT hx hy hn)
  have HT := Lib.hid (fun x (hx : x < n) => ordH_take A (x := x) (by rw [hT.l]; exact hx))
  have HT0 := Lib.hid (show (ordH A).take n = ordH A from List.take_of_length_le (by rw [ordH_length, hT.l]; exact Nat.le_refl _))
  have HTL := Lib.hid (fun (x : Nat) (hx : x ≤ n) => show (li ((ordH A).take x)).length = x by rw [li_length, List.length_take, ordH_length, hT.l]; omega)
  have HML := Lib.hid (fun (p : Nat → Bool) (k : Nat) (hk : k ≤ n) => Nat.lt_of_lt_of_le (msk_lt p k) (two_pow_30 (show k ≤ 30 by omega)))
  clear h hT
  go_enter Tryz.func113, Tryz.ntmps113
  go_upto_region 1 with fail
  have hb := below_alloc' w (.cells #[.slice A0 n c0, o, i, .int .i64 b, .int .i64 t] 26)
  have T1 := Lib.hid (Bk.new w #[.slice A0 n c0, o, i, .int .i64 b, .int .i64 t] 26)
  replace HA := Lib.hid (Sl2.below HA.out hb)
  replace A' := Lib.hid (bthen A'.out hb)
  clear hb
  generalize World.alloc w _ = w1 at *
  go_wp2
  go_loopw [3, 4] (fun v i wr => ∃ x : Nat, x ≤ n ∧ i = .int .i64 x ∧ Ow cI 2 w1.heap.size wr v (li ((ordH A).take x)) ∧ Below w1.heap.size w1 wr) (fun _ i _ => n - (intOf i).toNat)
  case atStart => exact ⟨0, Nat.zero_le _, rfl, Ow.lit (K := cI) [] rfl rfl (Nat.le_refl _), below_alloc' _ _⟩
  case round =>
    obtain ⟨x, hx, rfl, ho, hb⟩ := hrel
    obtain ⟨w2, hw2⟩ : ∃ W, W = wr := ⟨_, rfl⟩
    subst hw2
    obtain ⟨A2, c2, rfl⟩ := ho.opn
    have HLx := Lib.hid (HTL.out x hx)
    rw [HLx.out] at ho ⊢
    have O := Lib.hid ho
    have HB := Lib.hid hb
    have T2 := Lib.hid (T1.out.below hb)
    have t2s := T2.out.1
    have t2c := T2.out.2
    clear ho hb
    go_wp2_with fail
    clear t2s t2c
    refine (HSz.out _ (HA.out.below HB.out)).mono ?_
    rintro e w3 ⟨rfl, hb⟩
    replace O := Lib.hid (O.out.below hb)
    replace HB := Lib.hid (bthen HB.out hb)
    replace T2 := Lib.hid (T2.out.below hb)
    clear hb
    by_cases hlt : x < n
    · have HE := Lib.hid (HT.out x hlt)
      have HMx := Lib.hid (fun k hk => HML.out (fun y => decide (ent A x y = x)) k hk)
      rw [HAl.out] at HE
      go_wp2
      go_loopw [5, 6] (fun m i wr => ∃ y : Nat, y ≤ n ∧ i = .int .i64 y ∧ m = .int .i64 (msk (fun y => decide (ent A x y = x)) y : Nat) ∧ Below w3.heap.size w3 wr) (fun _ i _ => n - (intOf i).toNat)
      case atStart => exact ⟨0, Nat.zero_le _, rfl, rfl, Below.refl _ _⟩
      case round =>
        obtain ⟨y, hy, rfl, rfl, hb⟩ := hrel
        obtain ⟨w4, hw4⟩ : ∃ W, W = wr := ⟨_, rfl⟩
        subst hw4
        have HB4 := Lib.hid hb
        have T4 := Lib.hid (T2.out.below hb)
        have t4s := T4.out.1
        have t4c := T4.out.2
        clear hb
        go_wp2_with fail
        clear t4s t4c
        refine (HSz.out _ ((HA.out.below HB.out).below HB4.out)).mono ?_
        rintro e w5 ⟨rfl, hb⟩
        replace HB4 := Lib.hid (bthen HB4.out hb)
        replace T4 := Lib.hid (T4.out.below hb)
        clear hb
        have hm := HMx.out y hy
        by_cases hlt2 : y < n
        · have HMs : Hid (msk (fun y => decide (ent A x y = x)) (y + 1) = msk (fun y => decide (ent A x y = x)) y ||| if decide (ent A x y = x) then 2 ^ y else 0) := Lib.hid rfl
          have HLxy := Lib.hid (fun W hW => HLq.out x y W hW hlt hlt2)
          generalize msk (fun y => decide (ent A x y = x)) y = m at *
          have t4s := T4.out.1
          have t4c := T4.out.2
          go_wp2_with fail
          clear t4s t4c
          refine (HLxy.out _ ((HA.out.below HB.out).below HB4.out)).mono ?_
          rintro e w6 ⟨rfl, hb⟩
          replace HB4 := Lib.hid (bthen HB4.out hb)
          clear hb T4
          cases hd : decide (ent A x y = x)
          · rw [hd, if_neg Bool.false_ne_true, Nat.or_zero] at HMs
            clear hd
            go_wp2
            exact ⟨⟨y + 1, by omega, by go_num, by rw [HMs.out], HB4.out⟩, by simp [intOf]; omega⟩
          · rw [hd, if_pos rfl] at HMs
            clear hd
            have e2 := i64_or_nat m (2 ^ y) (by omega) (two_pow_lt (by omega))
            rw [← cast_two_pow] at e2
            have HE2 := Lib.hid e2
            clear e2
            go_wp2_with fail
            refine (spec_l01One (y : Int) _ (by omega) (by omega)).mono ?_
            rintro e _ ⟨rfl, rfl⟩
            rw [Int.toNat_natCast]
            have e2 := HE2.out
            go_wp2
            exact ⟨⟨y + 1, by omega, by go_num, by rw [HMs.out], HB4.out⟩, by simp [intOf]; omega⟩
        · obtain rfl : y = n := by omega
          have O4 := Lib.hid (O.out.below HB4.out)
          have HB5 := Lib.hid (bthen HB.out HB4.out)
          have hz5 := HB5.out.size
          have HLI1 : Hid (li ((ordH A).take (x + 1)) = li ((ordH A).take x) ++ [((msk (fun y => decide (ent A x y = x)) y : Nat) : Int)]) := Lib.hid (by rw [HE.out, li_snocP])
          generalize msk (fun y => decide (ent A x y = x)) y = m at *
          generalize li ((ordH A).take x) = L at *
          clear HE O
          go_wp2_with (at_builtin; refine stopHere ?_)
          refine goHere ?_
          refine ap_one (K := cI) _ ty_int64 rfl _ _ rfl (B := w1.heap.size) (v := .slice A2 x c2) (xs := L) rfl O4.out (m : Int) rfl rfl (by have := HLx.out; omega) hz5 ?_
          intro v1 w7 ho1 hg1 hb1 hat1
          have O1 := Lib.hid ho1
          have B1 := Lib.hid (HB5.out.trans hb1)
          clear ho1 hg1 hb1 hat1
          go_wp2
          exact ⟨⟨x + 1, by omega, by go_num, by rw [HLI1.out]; exact O1.out, B1.out⟩, by simp [intOf]; omega⟩
    · obtain rfl : x = n := by omega
      rw [HT0.out] at O
      go_wp2
      go_ret
      exact ⟨_, rfl, O.out.mono A'.out.size, A'.out.trans (HB.out.mono A'.out.size)⟩
/-- the least member of a mask in an order, or -1 -/
def lwI (ns : List Nat) (m : Nat) : Int := match lw ns m with | some x => x | none => -1
theorem lw_some {ns : List Nat} {m x : Nat} (hx : x < ns.length) (hb : (m.testBit x && decide (andnot m (ns.getD x 0) = 0)) = true) (hn : ∀ y, y < x → (m.testBit y && decide (andnot m (ns.getD y 0) = 0)) = false) : lw ns m = some x := by
  unfold lw
  rw [List.find?_eq_some_iff_getElem]
  refine ⟨hb, x, by simpa using hx, by simp, fun j hj => ?_⟩
  rw [List.getElem_range, hn j hj]
  rfl
theorem lw_none {ns : List Nat} {m : Nat} (hn : ∀ y, y < ns.length → (m.testBit y && decide (andnot m (ns.getD y 0) = 0)) = false) : lw ns m = none := by
  unfold lw
  rw [List.find?_eq_none]
  intro y hy
  rw [hn y (List.mem_range.1 hy)]
  exact Bool.false_ne_true
set_option maxRecDepth 100000 in
theorem spec_l18Low (v : Value) (ns : List Nat) (m : Nat) (w : World) (h : Sl cI w v (li ns)) (hr : RelM ns) (hm : m < 1073741824) :
    Calls Tryz.prog 161 #[v, .int .i64 m] w fun e w' => e = .returned (.int .i64 (lwI ns m)) ∧ w = w' := by
  obtain ⟨A, c, rfl⟩ := h.opn
  have HL := Lib.hid (li_length ns)
  have h30 := hr.1
  rw [HL.out] at h ⊢
  have HS := Lib.hid h
  have HX := Lib.hid (fun i => hr.lt i)
  clear h hr
  go_enter Tryz.func161, Tryz.ntmps161
  go_wp2
  go_loop [5] (fun i => ∃ j : Nat, j ≤ ns.length ∧ i = .int .i64 j ∧ ∀ y, y < j → (m.testBit y && decide (andnot m (ns.getD y 0) = 0)) = false) (fun i => ns.length - (intOf i).toNat)
  case atStart => exact ⟨0, Nat.zero_le _, rfl, fun y hy => by omega⟩
  case round =>
    obtain ⟨j, hj, rfl, hh⟩ := hrel
    have HH := Lib.hid hh
    clear hh
    by_cases hlt : j < ns.length
    · obtain ⟨b, o, rfl, hbl, hc0⟩ := HS.out.atI (k := j) (by rw [HL.out]; exact hlt)
      rw [li_get] at hc0
      have hx := HX.out j
      have HT : Hid ((m.testBit j && decide (andnot m (ns.getD j 0) = 0)) = true → lwI ns m = j) := Lib.hid (fun hb => by unfold lwI; rw [lw_some hlt hb HH.out])
      have HN : Hid ((m.testBit j && decide (andnot m (ns.getD j 0) = 0)) = false → ∀ y, y < j + 1 → (m.testBit y && decide (andnot m (ns.getD y 0) = 0)) = false) := Lib.hid (fun hb y hy => by
        rcases Nat.lt_or_ge y j with h1 | h1
        · exact HH.out y h1
        · obtain rfl : y = j := by omega
          exact hb)
      have HB1 := Lib.hid (spec_l01Bit m j w (by omega) (by omega))
      generalize ns.getD j 0 = x at *
      have e2 := i64_andNot_nat m x (by omega) (by omega)
      have HA0 := Lib.hid (eqI (andnot m x) 0)
      go_wp2_with fail
      refine HB1.out.mono ?_
      rintro e _ ⟨rfl, rfl⟩
      cases hb : m.testBit j
      · have E := Lib.hid (HN.out (by rw [hb]; rfl))
        clear hb
        go_wp2
        exact ⟨⟨j + 1, by omega, by go_num, E.out⟩, by simp [intOf]; omega⟩
      · rw [hb, Bool.true_and] at HT HN
        clear hb
        generalize andnot m x = z at *
        by_cases hz : z = 0
        · have E := Lib.hid (HT.out (decide_eq_true hz))
          subst hz
          go_wp2
          go_ret
          exact ⟨by rw [E.out]; rfl, rfl⟩
        · have E := Lib.hid (HN.out (decide_eq_false hz))
          have z1 : ((z : Int) == 0) = false := beq_eq_false_iff_ne.2 (by omega)
          clear hz
          go_wp2
          exact ⟨⟨j + 1, by omega, by go_num, E.out⟩, by simp [intOf]; omega⟩
    · obtain rfl : j = ns.length := by omega
      have E : Hid (lwI ns m = -1) := Lib.hid (by unfold lwI; rw [lw_none HH.out])
      go_wp2
      go_ret
      exact ⟨by rw [E.out]; rfl, rfl⟩
end Go.Proofs.YtgkogfjifcfkoaaGreat

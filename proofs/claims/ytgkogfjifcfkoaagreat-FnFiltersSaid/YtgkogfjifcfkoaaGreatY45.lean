/- The reference's drawing of Heyting algebras: the chain, the upset algebra. -/
import Derived.Test.YtgkogfjifcfkoaaGreatY44
import Derived.Test.YtgkogfjifcfkoaaGreatY16
namespace Go.Proofs.YtgkogfjifcfkoaaGreat
open Go.RowKit
set_option linter.unusedVariables false
set_option linter.unusedSimpArgs false
/-- the tables that an order builds, owned -/
structure Bt (B : Nat) (X : World) (a o i : Value) (ns : List Nat) : Prop where
  a : OwT B X a (tabI (fA ns) ns.length ns.length)
  o : OwT B X o (tabI (fO ns) ns.length ns.length)
  i : OwT B X i (tabI (fI ns) ns.length ns.length)
theorem Bt.below {B : Nat} {X Y : World} {a o i : Value} {ns : List Nat} (h : Bt B X a o i ns) (hb : Below X.heap.size X Y) : Bt B Y a o i ns := ⟨h.a.below hb, h.o.below hb, h.i.below hb⟩
theorem Bt.mono {B B' : Nat} {X : World} {a o i : Value} {ns : List Nat} (h : Bt B X a o i ns) (hb : B' ≤ B) : Bt B' X a o i ns := ⟨h.a.mono hb, h.o.mono hb, h.i.mono hb⟩
theorem Bt.setBelow {B : Nat} {X : World} {a o i : Value} {ns : List Nat} (h : Bt B X a o i ns) {p : Addr} (hp : p.block < B) (u : Value) : Bt B (X.setCell p u) a o i ns := ⟨h.a.setBelow hp u, h.o.setBelow hp u, h.i.setBelow hp u⟩
theorem Bt.hy {B : Nat} {X : World} {a o i : Value} {ns : List Nat} (h : Bt B X a o i ns) : Hy X a o i (tabI (fA ns) ns.length ns.length) (tabI (fO ns) ns.length ns.length) (tabI (fI ns) ns.length ns.length) := ⟨h.a.sl2, h.o.sl2, h.i.sl2⟩
theorem OwT.kept {B : Nat} {w w' : World} {v : Value} {xss : List (List Int)} {g : Nat} (h : OwT B w v xss) (hg : w.grownBy w' (some g)) (hB : g < B) : OwT B w' v xss := by
  obtain ⟨hs, h1, h2, h3⟩ := h
  have key : ∀ (u : Value), (∀ k, u.ownBlock = some k → B ≤ k) → u.ownBlock = none ∨ u.ownBlock ≠ some g := fun u hu => by
    cases hv : u.ownBlock with
    | none => exact .inl rfl
    | some k => exact .inr (fun e => by injection e with e; have := hu k hv; omega)
  exact ⟨hs, h1.kept hg (key _ fun k e => (h1.block k e).1), h2, fun i a b => ⟨(h3 i a b).1.kept hg (key _ fun k e => ((h3 i a b).1.block k e).1), (h3 i a b).2⟩⟩
theorem Bt.kept {B : Nat} {X Y : World} {a o i : Value} {ns : List Nat} {g : Nat} (h : Bt B X a o i ns) (hg : X.grownBy Y (some g)) (hB : g < B) : Bt B Y a o i ns := ⟨h.a.kept hg hB, h.o.kept hg hB, h.i.kept hg hB⟩
theorem Bt.opn {B : Nat} {X : World} {a o i : Value} {ns : List Nat} (h : Bt B X a o i ns) : ∃ va ca vo co vi ci, a = .slice va ns.length ca ∧ o = .slice vo ns.length co ∧ i = .slice vi ns.length ci := by
  obtain ⟨va, ca, rfl⟩ := h.a.sl2.opn
  obtain ⟨vo, co, rfl⟩ := h.o.sl2.opn
  obtain ⟨vi, ci, rfl⟩ := h.i.sl2.opn
  exact ⟨va, ca, vo, co, vi, ci, by rw [tabI_length], by rw [tabI_length], by rw [tabI_length]⟩
theorem Hx_built {v : Value} {ns : List Nat} {w : World} (h : Sl cI w v (li ns)) (hx : Hx ns) :
    Calls Tryz.prog 112 #[v] w fun e w' => ∃ va ca vo co vi ci, e = .returned (.tuple #[.agg #[.slice va ns.length ca, .slice vo ns.length co, .slice vi ns.length ci, .int .i64 (botI ns), .int .i64 (topI ns)], .bool true]) ∧ Bt w.heap.size w' (.slice va ns.length ca) (.slice vo ns.length co) (.slice vi ns.length ci) ns ∧ Below w.heap.size w w' :=
  (spec_l18BuildO v ns w h hx.r).mono fun e w' q => q.elim (fun q => absurd (Hx_ok hx) q.1) fun ⟨h0, a, o, i, h1, h2, h3, h4, h5⟩ => by
    have hB : Bt w.heap.size w' a o i ns := ⟨h2, h3, h4⟩
    obtain ⟨va, ca, vo, co, vi, ci, rfl, rfl, rfl⟩ := hB.opn
    exact ⟨va, ca, vo, co, vi, ci, h1, hB, h5⟩
theorem q_l01FullM (k : Nat) (W : World) (h1 : k ≤ 62) :
    Calls Tryz.prog 86 #[.int .i64 (k : Int)] W fun e w'' => e = .returned (.int .i64 ((2 ^ k - 1 : Nat) : Int)) ∧ W = w'' := spec_l01Full' k _ rfl W h1
theorem chn_take {n x : Nat} (hx : x < n) : (chn n).take (x + 1) = (chn n).take x ++ [andnot (2 ^ n - 1) (2 ^ x - 1)] := by
  rw [List.take_succ_eq_append_getElem (by rw [chn_length]; exact hx)]
  congr 2
  simp [chn]
set_option maxHeartbeats 1000000 in
set_option maxRecDepth 100000 in
theorem spec_l18Chain (n : Nat) (w : World) (h1 : 1 ≤ n) (h30 : n ≤ 30) :
    Calls Tryz.prog 157 #[.int .i64 (n : Int)] w fun e w' => ∃ va ca vo co vi ci, e = .returned (.agg #[.slice va n ca, .slice vo n co, .slice vi n ci, .int .i64 (botI (chn n)), .int .i64 (topI (chn n))]) ∧ Bt w.heap.size w' (.slice va n ca) (.slice vo n co) (.slice vi n ci) (chn n) ∧ Below w.heap.size w w' := by
  have HBd := Lib.hid (fun v W (hW : Sl cI W v (li (chn n))) => Hx_built hW (Hx_chn h1 h30))
  rw [chn_length] at HBd
  have HT := Lib.hid (fun x (hx : x < n) => chn_take hx)
  have HT0 := Lib.hid (show (chn n).take n = chn n from List.take_of_length_le (by rw [chn_length]; exact Nat.le_refl _))
  have HTL := Lib.hid (fun (x : Nat) (hx : x ≤ n) => show (li ((chn n).take x)).length = x by rw [li_length, List.length_take, chn_length]; omega)
  have HR0 := Lib.hid (Blk.new w 26 #[.slice none 0 0, .slice none 0 0, .slice none 0 0, .int .i64 0, .int .i64 0])
  have HB0 := Lib.hid (below_alloc' w (.cells #[.slice none 0 0, .slice none 0 0, .slice none 0 0, .int .i64 0, .int .i64 0] 26))
  have HFu := Lib.hid (fun k W (hk : k ≤ 30) => q_l01FullM k W (by omega))
  generalize botI (chn n) = bt at *
  generalize topI (chn n) = tp at *
  go_enter Tryz.func157, Tryz.ntmps157
  go_upto_region 1 with fail
  generalize World.alloc w _ = w1 at *
  go_wp2
  go_loopw [3, 4] (fun v i wr => ∃ x : Nat, x ≤ n ∧ i = .int .i64 x ∧ Ow cI 2 w1.heap.size wr v (li ((chn n).take x)) ∧ Below w1.heap.size w1 wr) (fun _ i _ => n - (intOf i).toNat)
  case atStart => exact ⟨0, Nat.zero_le _, rfl, Ow.lit (K := cI) [] rfl rfl (Nat.le_refl _), below_alloc' _ _⟩
  case round =>
    obtain ⟨x, hx, rfl, ho, hb⟩ := hrel
    obtain ⟨w2, hw2⟩ : ∃ W, W = wr := ⟨_, rfl⟩
    subst hw2
    obtain ⟨A2, c2, rfl⟩ := ho.opn
    have HLx := Lib.hid (HTL.out x hx)
    rw [HLx.out] at ho ⊢
    have O := Lib.hid ho
    have HB := Lib.hid hb
    have hz := hb.size
    clear ho hb
    by_cases hlt : x < n
    · have HE := Lib.hid (HT.out x hlt)
      have hn1 := two_pow_30 (show n ≤ 30 by omega)
      have hx1 := two_pow_30 (show x ≤ 30 by omega)
      have F1 := Lib.hid (HFu.out n w2 (by omega))
      have F2 := Lib.hid (HFu.out x w2 (by omega))
      have HA := Lib.hid (i64_andNot_nat (2 ^ n - 1) (2 ^ x - 1) (by omega) (by omega))
      obtain ⟨p, hp⟩ : ∃ p, 2 ^ n - 1 = p := ⟨_, rfl⟩
      obtain ⟨q, hq⟩ : ∃ q, 2 ^ x - 1 = q := ⟨_, rfl⟩
      rw [hp] at F1 HA HE
      rw [hq] at F2 HA HE
      clear hn1 hx1 hp hq
      go_wp2_with fail
      refine F1.out.mono ?_
      rintro e _ ⟨rfl, rfl⟩
      go_wp2_with fail
      refine F2.out.mono ?_
      rintro e _ ⟨rfl, rfl⟩
      have ha := HA.out
      generalize andnot p q = r at *
      go_wp2_with (at_builtin; refine stopHere ?_)
      refine goHere ?_
      refine ap_one (K := cI) _ ty_int64 rfl _ _ rfl (B := w1.heap.size) (v := .slice A2 x c2) (xs := li ((chn n).take x)) rfl O.out (r : Int) rfl rfl (by have := HLx.out; omega) hz ?_
      intro v1 w7 ho1 hg1 hb1 hat1
      rw [← li_snoc, ← HE.out] at ho1
      have O1 := Lib.hid ho1
      have B1 := Lib.hid (HB.out.trans hb1)
      clear ho1 hg1 hb1 hat1
      go_wp2
      exact ⟨⟨x + 1, by omega, by go_num, O1.out, B1.out⟩, by simp [intOf]; omega⟩
    · obtain rfl : x = n := by omega
      rw [HT0.out] at O
      have r1 := HR0.out.below HB.out HR0.out.lt
      go_wp2_with fail
      refine (HBd.out _ _ O.out.sl).mono ?_
      rintro e w3 ⟨va, ca, vo, co, vi, ci, rfl, hB, hb⟩
      have R3 := Lib.hid (r1.below hb r1.lt)
      have BT := Lib.hid (hB.mono (show w.heap.size + 1 ≤ w2.heap.size by have := r1.lt; omega))
      have B3 := Lib.hid (bthen (bthen HB0.out HB.out) hb)
      clear r1 hB hb
      go_upto_region 7 with fail
      have hbx := below_alloc' w3 (.cells #[.slice va x ca, .slice vo x co, .slice vi x ci, .int .i64 bt, .int .i64 tp] 26)
      have hky := Blk.new w3 26 #[.slice va x ca, .slice vo x co, .slice vi x ci, .int .i64 bt, .int .i64 tp]
      have R4 := Lib.hid (R3.out.below hbx R3.out.lt)
      have BT4 := Lib.hid (BT.out.below hbx)
      have B4 := Lib.hid (bthen B3.out hbx)
      have P4 := Lib.hid hky
      clear hbx hky
      generalize World.alloc w3 _ = w4 at *
      have kr := R4.out.cell
      have fr := R4.out.frozen
      have lr := R4.out.lt
      have kp := P4.out.cell
      have lp := P4.out.lt
      go_wp2
      refine bodyPost_ret (v := .agg #[.slice va x ca, .slice vo x co, .slice vi x ci, .int .i64 bt, .int .i64 tp]) (by simp [results, Tryz.results157, go_sem, kr, fr, lr]) rfl ⟨_, _, _, _, _, _, rfl, ?_, ?_⟩
      · exact (((((BT4.out.setBelow (p := ⟨w.heap.size, 0, none⟩) (Nat.lt_succ_self _) _).setBelow (p := ⟨w.heap.size, 1, none⟩) (Nat.lt_succ_self _) _).setBelow (p := ⟨w.heap.size, 2, none⟩) (Nat.lt_succ_self _) _).setBelow (p := ⟨w.heap.size, 3, none⟩) (Nat.lt_succ_self _) _).setBelow (p := ⟨w.heap.size, 4, none⟩) (Nat.lt_succ_self _) _).mono (Nat.le_succ _)
      · exact (((((B4.out.setCell (p := ⟨w.heap.size, 0, none⟩) (Nat.le_refl _) _).setCell (p := ⟨w.heap.size, 1, none⟩) (Nat.le_refl _) _).setCell (p := ⟨w.heap.size, 2, none⟩) (Nat.le_refl _) _).setCell (p := ⟨w.heap.size, 3, none⟩) (Nat.le_refl _) _).setCell (p := ⟨w.heap.size, 4, none⟩) (Nat.le_refl _) _)
theorem uo_take {us : List Nat} {x : Nat} (hx : x < us.length) : (uo us).take (x + 1) = (uo us).take x ++ [msk (fun y => decide (andnot (us.getD x 0) (us.getD y 0) = 0)) us.length] := by
  rw [List.take_succ_eq_append_getElem (by rw [uo_length]; exact hx), ← getD_at (by rw [uo_length]; exact hx)]
  unfold uo
  rw [lnk_getD _ hx]
theorem ups_lt {ns : List Nat} {m : Nat} (h : m ∈ ups ns) : m < 2 ^ ns.length := (ups_mem.1 h).1
set_option maxHeartbeats 1000000 in
set_option maxRecDepth 100000 in
theorem spec_l18Of (v : Value) (ns : List Nat) (w : World) (h : Sl cI w v (li ns)) (hr : RelN ns) (rf : Rfl ns) (h30 : (ups ns).length ≤ 30) :
    Calls Tryz.prog 155 #[.agg #[.int .i64 (ns.length : Int), v]] w fun e w' => ∃ va ca vo co vi ci, e = .returned (.agg #[.slice va (ups ns).length ca, .slice vo (ups ns).length co, .slice vi (ups ns).length ci, .int .i64 (botI (uo (ups ns))), .int .i64 (topI (uo (ups ns)))]) ∧ Bt w.heap.size w' (.slice va (ups ns).length ca) (.slice vo (ups ns).length co) (.slice vi (ups ns).length ci) (uo (ups ns)) ∧ Below w.heap.size w w' := by
  have HBd := Lib.hid (fun v W (hW : Sl cI W v (li (uo (ups ns)))) => Hx_built hW (Hx_ups hr.2 rf h30))
  rw [uo_length] at HBd
  have HUp := Lib.hid (fun W hW => spec_l16UpsetsX v ns W hW hr)
  have H8 := hr.1
  have HUL : Hid (∀ x, x < (ups ns).length → (ups ns).getD x 0 < 256) := Lib.hid (fun x hx => Nat.lt_of_lt_of_le (ups_lt (getD_mem hx)) (two_pow_256 H8))
  generalize ups ns = us at *
  obtain ⟨n, hn⟩ : ∃ n, us.length = n := ⟨_, rfl⟩
  have HN := Lib.hid hn
  have HT := Lib.hid (fun x (hx : x < us.length) => uo_take hx)
  have HT0 := Lib.hid (show (uo us).take us.length = uo us from List.take_of_length_le (by rw [uo_length]; exact Nat.le_refl _))
  have HTL := Lib.hid (fun (x : Nat) (hx : x ≤ us.length) => show (li ((uo us).take x)).length = x by rw [li_length, List.length_take, uo_length]; omega)
  have HLU := Lib.hid (li_length us)
  rw [hn] at HBd HUL HT HT0 HTL HLU h30 ⊢
  clear hn
  obtain ⟨vA, vc, rfl⟩ := h.opn
  rw [li_length] at h HUp ⊢
  have HX := Lib.hid h
  have hb0 := below_alloc' w (.cells #[.int .i64 (ns.length : Int), .slice vA ns.length vc] 42)
  have hk0 := Blk.new w 42 #[.int .i64 (ns.length : Int), .slice vA ns.length vc]
  have hb1 := below_alloc' (w.alloc (.cells #[.int .i64 (ns.length : Int), .slice vA ns.length vc] 42)) (.cells #[.slice none 0 0, .slice none 0 0, .slice none 0 0, .int .i64 0, .int .i64 0] 26)
  have HR0 : Hid (Blk ((w.alloc (.cells #[.int .i64 (ns.length : Int), .slice vA ns.length vc] 42)).alloc (.cells #[.slice none 0 0, .slice none 0 0, .slice none 0 0, .int .i64 0, .int .i64 0] 26)) (w.heap.size + 1) 26 #[.slice none 0 0, .slice none 0 0, .slice none 0 0, .int .i64 0, .int .i64 0]) := Lib.hid (Blk.new' _ _ _ (by simp))
  have HB0 := Lib.hid (bthen hb0 hb1)
  have HK0 := Lib.hid (hk0.below hb1 hk0.lt)
  clear hb0 hb1 hk0 h
  generalize botI (uo us) = bt at *
  generalize topI (uo us) = tp at *
  go_enter Tryz.func155, Tryz.ntmps155
  go_upto_region 1 with fail
  generalize World.alloc (w.alloc _) _ = w0 at *
  have k0 := HK0.out.cell
  have l0 := HK0.out.lt
  go_wp2_with fail
  refine (HUp.out _ (HX.out.below HB0.out)).mono ?_
  rintro e w1 ⟨z, rfl, ho, hb⟩
  obtain ⟨zA, zc, rfl⟩ := ho.opn
  rw [HLU.out] at ho ⊢
  have HS := Lib.hid ho.sl
  have R1 := Lib.hid (HR0.out.below hb HR0.out.lt)
  have B1 := Lib.hid (bthen HB0.out hb)
  clear k0 l0 hb ho HUp HX HK0 HR0
  go_wp2
  go_loopw [4, 5] (fun v i wr => ∃ x : Nat, x ≤ n ∧ i = .int .i64 x ∧ Ow cI 2 w1.heap.size wr v (li ((uo us).take x)) ∧ Below w1.heap.size w1 wr) (fun _ i _ => n - (intOf i).toNat)
  case atStart => exact ⟨0, Nat.zero_le _, rfl, Ow.lit (K := cI) [] rfl rfl (Nat.le_refl _), below_alloc' _ _⟩
  case round =>
    obtain ⟨x, hx, rfl, ho, hb⟩ := hrel
    obtain ⟨w2, hw2⟩ : ∃ W, W = wr := ⟨_, rfl⟩
    subst hw2
    obtain ⟨A2, c2, rfl⟩ := ho.opn
    have HLx := Lib.hid (HTL.out x hx)
    rw [HLx.out] at ho ⊢
    have O := Lib.hid ho
    have HB := Lib.hid hb
    have hz := hb.size
    clear ho hb
    by_cases hlt : x < n
    · have HE := Lib.hid (HT.out x hlt)
      have HMx : Hid (∀ k, k ≤ n → msk (fun y => decide (andnot (us.getD x 0) (us.getD y 0) = 0)) k < 1073741824) := Lib.hid (fun k hk => Nat.lt_of_lt_of_le (msk_lt _ k) (two_pow_30 (show k ≤ 30 by omega)))
      have HMS : Hid (∀ y, msk (fun y => decide (andnot (us.getD x 0) (us.getD y 0) = 0)) (y + 1) = msk (fun y => decide (andnot (us.getD x 0) (us.getD y 0) = 0)) y ||| if decide (andnot (us.getD x 0) (us.getD y 0) = 0) then 2 ^ y else 0) := Lib.hid (fun y => rfl)
      have hux := HUL.out x hlt
      obtain ⟨bl, ol, rfl, hbl, hcx⟩ := (HS.out.below HB.out).atI (k := x) (by rw [HLU.out]; exact hlt)
      rw [li_get] at hcx
      go_wp2
      go_loopw [6, 7] (fun m i wr => ∃ y : Nat, y ≤ n ∧ i = .int .i64 y ∧ m = .int .i64 (msk (fun y => decide (andnot (us.getD x 0) (us.getD y 0) = 0)) y : Nat) ∧ ∃ q, wr = w2.drewN q) (fun _ i _ => n - (intOf i).toNat)
      case atStart => exact ⟨0, Nat.zero_le _, rfl, rfl, 0, rfl⟩
      case round =>
        obtain ⟨y, hy, rfl, rfl, qn, rfl⟩ := hrel
        have hm := HMx.out y hy
        by_cases hlt2 : y < n
        · obtain ⟨bl', ol', e', hbl', hcy⟩ := (HS.out.below HB.out).atI (k := y) (by rw [HLU.out]; exact hlt2)
          injection e' with e'
          injection e' with e1 e2
          subst e1
          subst e2
          rw [li_get] at hcy
          have huy := HUL.out y hlt2
          have HMs := Lib.hid (HMS.out y)
          generalize msk (fun y => decide (andnot (us.getD x 0) (us.getD y 0) = 0)) y = m at *
          generalize us.getD y 0 = q at *
          generalize us.getD x 0 = p at *
          have ea := i64_andNot_nat p q (by omega) (by omega)
          by_cases hd : andnot p q = 0
          · have hd1 : (((andnot p q : Nat) : Int) == 0) = true := by rw [hd]; rfl
            rw [decide_eq_true hd, if_pos rfl] at HMs
            have e2 := i64_or_nat m (2 ^ y) (by omega) (two_pow_lt (by omega))
            rw [← cast_two_pow] at e2
            clear hd
            go_wp2
            go_quiet (fail)
            go_wp2_with fail
            refine (spec_l01One _ _ (by omega) (by omega)).mono ?_
            rintro e w1 ⟨rfl, rfl⟩
            rw [Int.toNat_natCast]
            go_wp2
            go_roundw
            case rel => exact ⟨y + 1, by omega, by go_num, by rw [HMs.out], by first | exact ⟨_, rfl⟩ | exact ⟨_, World.drewN_drewN _ _ _⟩⟩
            case measure => simp [intOf]; omega
          · have hd1 : (((andnot p q : Nat) : Int) == 0) = false := by rw [beq_eq_false_iff_ne]; omega
            rw [decide_eq_false hd, if_neg (by decide), Nat.or_zero] at HMs
            clear hd
            go_wp2
            go_quiet (fail)
            go_wp2
            go_roundw
            case rel => exact ⟨y + 1, by omega, by go_num, by rw [HMs.out], by first | exact ⟨_, rfl⟩ | exact ⟨_, World.drewN_drewN _ _ _⟩⟩
            case measure => simp [intOf]; omega
        · obtain rfl : y = n := by omega
          clear hcx hm hux
          generalize msk (fun y => decide (andnot (us.getD x 0) (us.getD y 0) = 0)) y = r at *
          replace O := Lib.hid (O.out.drewN qn)
          replace HB := Lib.hid (below_drewN HB.out qn)
          replace hz := HB.out.size
          generalize World.drewN w2 qn = w3 at *
          go_wp2_with (at_builtin; refine stopHere ?_)
          refine goHere ?_
          refine ap_one (K := cI) _ ty_int64 rfl _ _ rfl (B := w1.heap.size) (v := .slice A2 x c2) (xs := li ((uo us).take x)) rfl O.out (r : Int) rfl rfl (by have := HLx.out; omega) hz ?_
          intro v1 w7 ho1 hg1 hb1 hat1
          rw [← li_snoc, ← HE.out] at ho1
          have O1 := Lib.hid ho1
          have B1 := Lib.hid (HB.out.trans hb1)
          clear ho1 hg1 hb1 hat1
          go_wp2
          exact ⟨⟨x + 1, by omega, by go_num, O1.out, B1.out⟩, by simp [intOf]; omega⟩
    · obtain rfl : x = n := by omega
      rw [HT0.out] at O
      have r1 := R1.out.below HB.out R1.out.lt
      go_wp2_with fail
      refine (HBd.out _ _ O.out.sl).mono ?_
      rintro e w3 ⟨va, ca, vo, co, vi, ci, rfl, hB, hb⟩
      have R3 := Lib.hid (r1.below hb r1.lt)
      have BT := Lib.hid (hB.mono (show w.heap.size + 2 ≤ w2.heap.size by have := r1.lt; omega))
      have B3 := Lib.hid (bthen (bthen B1.out HB.out) hb)
      clear r1 hB hb
      go_upto_region 13 with fail
      have hbx := below_alloc' w3 (.cells #[.slice va x ca, .slice vo x co, .slice vi x ci, .int .i64 bt, .int .i64 tp] 26)
      have hky := Blk.new w3 26 #[.slice va x ca, .slice vo x co, .slice vi x ci, .int .i64 bt, .int .i64 tp]
      have R4 := Lib.hid (R3.out.below hbx R3.out.lt)
      have BT4 := Lib.hid (BT.out.below hbx)
      have B4 := Lib.hid (bthen B3.out hbx)
      have P4 := Lib.hid hky
      clear hbx hky
      generalize World.alloc w3 _ = w4 at *
      have kr := R4.out.cell
      have fr := R4.out.frozen
      have lr := R4.out.lt
      have kp := P4.out.cell
      have lp := P4.out.lt
      go_wp2
      refine bodyPost_ret (v := .agg #[.slice va x ca, .slice vo x co, .slice vi x ci, .int .i64 bt, .int .i64 tp]) (by simp [results, Tryz.results155, go_sem, kr, fr, lr]) rfl ⟨_, _, _, _, _, _, rfl, ?_, ?_⟩
      · exact (((((BT4.out.setBelow (p := ⟨w.heap.size + 1, 0, none⟩) (Nat.lt_succ_self _) _).setBelow (p := ⟨w.heap.size + 1, 1, none⟩) (Nat.lt_succ_self _) _).setBelow (p := ⟨w.heap.size + 1, 2, none⟩) (Nat.lt_succ_self _) _).setBelow (p := ⟨w.heap.size + 1, 3, none⟩) (Nat.lt_succ_self _) _).setBelow (p := ⟨w.heap.size + 1, 4, none⟩) (Nat.lt_succ_self _) _).mono (Nat.le_trans (Nat.le_succ _) (Nat.le_succ _))
      · exact (((((B4.out.setCell (p := ⟨w.heap.size + 1, 0, none⟩) (Nat.le_succ _) _).setCell (p := ⟨w.heap.size + 1, 1, none⟩) (Nat.le_succ _) _).setCell (p := ⟨w.heap.size + 1, 2, none⟩) (Nat.le_succ _) _).setCell (p := ⟨w.heap.size + 1, 3, none⟩) (Nat.le_succ _) _).setCell (p := ⟨w.heap.size + 1, 4, none⟩) (Nat.le_succ _) _)
end Go.Proofs.YtgkogfjifcfkoaaGreat

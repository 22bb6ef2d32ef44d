/- Joined of several texts. -/
import Derived.Test.YtgkogfjifcfkoaaGreatY35
import Derived.Test.YtgkogfjifcfkoaaGreatY41
import Derived.Test.YtgkogfjifcfkoaaGreatY37
import Derived.Test.YtgkogfjifcfkoaaGreatY29
import Derived.DataShut
namespace Go.Proofs.YtgkogfjifcfkoaaGreat
/- What FnFilters asks, of the answers of both sides, in plain words. -/
open Go.RowKit
set_option linter.unusedVariables false
set_option linter.unusedSimpArgs false
theorem lil_inj {A B : List (List Nat)} (h : lil A = lil B) : A = B := by rw [← nT_lil A, h, nT_lil]
theorem ff_cases (A O I : List (List Int)) (b t m : Int) : fcd A O I b t m = 1 ∨ fcd A O I b t m = 2 ∨ (hcd A O I b t m = 0 ∧ ((fcd A O I b t m = 5 ∧ ifB A O I b t m = false) ∨ (fcd A O I b t m = 0 ∧ ifB A O I b t m = true))) := by
  by_cases h : hcd A O I b t m = 0
  · refine .inr (.inr ⟨h, ?_⟩)
    obtain ⟨A1, O1, I1, b1, t1, m1, rfl, rfl, rfl, rfl, rfl, rfl, hm, hT⟩ := hcd_0 h
    unfold fcd ifB
    rw [if_pos h, decide_eq_true h, Bool.true_and, Int.toNat_natCast]
    by_cases e : flt (nsOf (lil A1)) m1 = m1
    · exact .inr ⟨if_pos e, decide_eq_true (by rw [e])⟩
    · exact .inl ⟨if_neg e, decide_eq_false (fun q => e (Int.ofNat_inj.1 q))⟩
  · have e : fcd A O I b t m = hcd A O I b t m := by unfold fcd; rw [if_neg h]
    rw [e]
    unfold hcd at h ⊢
    split
    · next h1 =>
      rw [if_pos h1] at h
      split
      · next h2 => rw [if_pos h2] at h; exact absurd rfl h
      · exact .inr (.inl rfl)
    · exact .inl rfl
theorem mem_li {ns : List Nat} {m : Nat} : (m : Int) ∈ li ns ↔ m ∈ ns := by
  unfold li
  rw [List.mem_map]
  constructor
  · rintro ⟨x, hx, e⟩
    rw [← Int.ofNat_inj.1 e]
    exact hx
  · intro h
    exact ⟨m, h, rfl⟩
theorem ff_all {A O I : List (List Int)} {b t m : Int} (h : hcd A O I b t m = 0) :
    afC A O I b t = 0 ∧ (afI A O I b t).length = A.length ∧ decide (m ∈ afI A O I b t) = ifB A O I b t m ∧ decide (foI A O I b t m ∈ afI A O I b t) = true ∧ (foI A O I b t m == m) = ifB A O I b t m := by
  have hh := h
  obtain ⟨A1, O1, I1, b1, t1, m1, rfl, rfl, rfl, rfl, rfl, rfl, hm, hT⟩ := hcd_0 h
  have hy : hyt (lil A1) (lil O1) (lil I1) b1 t1 := by
    unfold hcd at hh
    by_cases q : hyt (lil A1) (lil O1) (lil I1) b1 t1
    · exact q
    · rw [if_neg q] at hh; exact absurd hh (by decide)
  unfold afC afI foI ifB
  rw [if_pos hy, if_pos hy, if_pos hh, decide_eq_true hh, Bool.true_and, Int.toNat_natCast, nsOf_lil]
  refine ⟨rfl, by rw [List.length_mergeSort, li_length, ordH_length, lil_length], ?_, ?_, ?_⟩
  · rw [Bool.eq_iff_iff, decide_eq_true_eq, decide_eq_true_eq, List.mem_mergeSort, mem_li, ← flt_in hT.ha]
    exact ⟨fun q => by rw [q], fun q => Int.ofNat_inj.1 q⟩
  · rw [decide_eq_true_eq, List.mem_mergeSort, mem_li]
    exact flt_mem _ hT.ha _
  · rw [Bool.eq_iff_iff, beq_iff_eq, decide_eq_true_eq]
theorem hyt_HyT {A O I : List (List Nat)} {b t : Nat} (h : hyt (lil A) (lil O) (lil I) b t) : HyT A O I b t := by
  obtain ⟨A1, O1, I1, b1, t1, e1, e2, e3, e4, e5, hT⟩ := hyt_T h
  obtain rfl := lil_inj e1
  obtain rfl := lil_inj e2
  obtain rfl := lil_inj e3
  obtain rfl := Int.ofNat_inj.1 e4
  obtain rfl := Int.ofNat_inj.1 e5
  exact hT
/-- the quotient by a filter, and the map to it -/
theorem ff_ok {A O I : List (List Int)} {b t m : Int} (h : fcd A O I b t m = 0) :
    ∃ (A1 O1 I1 KA KO KI : List (List Nat)) (b1 t1 m1 kb kt : Nat) (L : List Nat), A = lil A1 ∧ O = lil O1 ∧ I = lil I1 ∧ b = (b1 : Int) ∧ t = (t1 : Int) ∧ m = (m1 : Int) ∧ HyT A1 O1 I1 b1 t1 ∧ HyT KA KO KI kb kt ∧
      qTab A A O I b t m = lil KA ∧ qTab O A O I b t m = lil KO ∧ qTab I A O I b t m = lil KI ∧ qNum b A O I b t m = (kb : Int) ∧ qNum t A O I b t m = (kt : Int) ∧ cgL A O I b t m = li L ∧
      HmP A1 O1 I1 b1 t1 KA KO KI kb kt L ∧ sqM (2 ^ kt) L L.length = m1 ∧ imS L L.length = 2 ^ KA.length - 1 ∧ hyt (lil KA) (lil KO) (lil KI) kb kt := by
  obtain ⟨A1, O1, I1, b1, t1, m1, rfl, rfl, rfl, rfl, rfl, rfl, hm, hT, hf⟩ := fcd_0 h
  have hl := ordH_length A1
  have hm2 : m1 < 2 ^ (ordH A1).length := by rw [hl]; exact hm
  have hq := qt_alg hT hm2 hf
  have hh := Alg_hyt hq
  have hcl_eq : (ccl (nsOf (lil A1)) (m1 : Int).toNat (lil A1).length).1 = hcl (ordH A1) m1 := by
    unfold hcl
    rw [nsOf_lil, Int.toNat_natCast, lil_length, hl]
  have hqf_eq : qfs9 (lil A1) m1 = hqf (ordH A1) m1 := by
    unfold qfs9 qcl9 hqf
    rw [hcl_eq, lil_length, hl]
  have hqt : ∀ X, qtb (lil X) (lil A1) m1 = lil (qN (ordH A1) m1 X) := fun X => by
    unfold qtb
    rw [hqf_eq, nT_lil]
    unfold qcl9
    rw [hcl_eq]
    exact (qN_lil _ _ _).symm
  have hKA : (qN (ordH A1) m1 A1).length = hqn (ordH A1) m1 := qN_length _ _ _
  have hcll := hcl_length (ordH A1) m1
  have hcb : ∀ x ∈ hcl (ordH A1) m1, x < hqn (ordH A1) m1 := fun x hx => by
    obtain ⟨i, hi, rfl⟩ := List.mem_iff_getElem.1 hx
    rw [← getD_at hi]
    exact hcl_lt _ _ (by omega)
  refine ⟨A1, O1, I1, qN (ordH A1) m1 A1, qN (ordH A1) m1 O1, qN (ordH A1) m1 I1, b1, t1, m1, (hcl (ordH A1) m1).getD b1 0, (hcl (ordH A1) m1).getD t1 0, hcl (ordH A1) m1, rfl, rfl, rfl, rfl, rfl, rfl, hT, hyt_HyT hh, ?_, ?_, ?_, ?_, ?_, ?_, ?_, ?_, ?_, hh⟩
  · unfold qTab; rw [if_pos h, hqt]
  · unfold qTab; rw [if_pos h, hqt]
  · unfold qTab; rw [if_pos h, hqt]
  · unfold qNum; rw [if_pos h]; unfold qcl9; rw [hcl_eq, Int.toNat_natCast]
  · unfold qNum; rw [if_pos h]; unfold qcl9; rw [hcl_eq, Int.toNat_natCast]
  · unfold cgL; rw [if_pos h, hcl_eq]
  · refine ⟨by rw [hcll, hl], by rw [hKA]; exact hcb, fun _ => rfl, fun _ => rfl, fun k hk x hx y hy _ => ?_⟩
    have q := qt_map hT hm2 hf (x := x) (y := y) (by omega) (by omega)
    rcases (show k = 0 ∨ k = 1 ∨ k = 2 by omega) with rfl | rfl | rfl
    · exact q.1
    · exact q.2.1
    · exact q.2.2
  · refine msk_ext (hcl (ordH A1) m1).length (msk_lt _ _) (by rw [hcll]; exact hm2) fun x hx => ?_
    unfold sqM
    rw [msk_testBit, decide_eq_true hx, Bool.true_and, Nat.testBit_two_pow, Bool.eq_iff_iff, decide_eq_true_eq, ← qt_ker hT hm2 hf (x := x) (by omega)]
    exact eq_comm
  · rw [hKA]
    have hp : 0 < 2 ^ hqn (ordH A1) m1 := Nat.pow_pos (by decide)
    refine msk_ext (hqn (ordH A1) m1) (imS_lt hcb _ (Nat.le_refl _)) (by omega) fun c hc => ?_
    rw [Nat.testBit_two_pow_sub_one, decide_eq_true hc, imS_bit]
    have := hqf_at (ordH A1) m1 hc
    exact ⟨_, by rw [hcll]; exact this.1, this.2⟩
/- Heyting algebras, of the program: KernelOfMap at a homomorphism. -/
open Go.RowKit
set_option linter.unusedVariables false
set_option linter.unusedSimpArgs false
set_option maxHeartbeats 1000000 in
set_option maxRecDepth 100000 in
theorem impl_KernelOfMap_yes (a o i a' o' i' v : Value) (A O I A' O' I' : List (List Nat)) (b t b' t' : Nat) (L : List Nat) (w : World) (h : Hy w a o i (lil A) (lil O) (lil I)) (h' : Hy w a' o' i' (lil A') (lil O') (lil I')) (hv : Sl cI w v (li L))
    (hT : HyT A O I b t) (hT' : HyT A' O' I' b' t') (hy : hyt (lil A) (lil O) (lil I) (b : Int) (t : Int)) (hy' : hyt (lil A') (lil O') (lil I') (b' : Int) (t' : Int)) (hm : HmP A O I b t A' O' I' b' t' L) :
    Calls Tryz.prog 9 #[.agg #[a, o, i, .int .i64 (b : Int), .int .i64 (t : Int)], .agg #[a', o', i', .int .i64 (b' : Int), .int .i64 (t' : Int)], v] w fun e w' => e = .returned (.tuple #[.int .i64 ((sqM (2 ^ t') L L.length : Nat) : Int), .int .i64 0]) ∧ Below w.heap.size w w' := by
  obtain ⟨va, ca, rfl⟩ := h.a.opn
  obtain ⟨vo, co, rfl⟩ := h.o.opn
  obtain ⟨vi, ci, rfl⟩ := h.i.opn
  obtain ⟨va', ca', rfl⟩ := h'.a.opn
  obtain ⟨vo', co', rfl⟩ := h'.o.opn
  obtain ⟨vi', ci', rfl⟩ := h'.i.opn
  obtain ⟨vv, cv, rfl⟩ := hv.opn
  have MC := Lib.hid (fun W (hW : Below w.heap.size w W) => impl_heytingMapCode_yes _ _ _ _ _ _ _ A O I A' O' I' b t b' t' L W (h.below hW) (h'.below hW) (hv.below hW) hT hT' hy hy' hm)
  have n30 := hT.n30
  have n30' := hT'.n30
  have tl' := hT'.tl
  have h29 : 2 ^ t' < 1073741824 := Nat.lt_of_lt_of_le (Nat.pow_lt_pow_right (by decide) (show t' < 30 by omega)) (two_pow_30 (Nat.le_refl _))
  have e3 := wrap_two_pow'' (n := t') (by omega)
  obtain ⟨M, hM⟩ : ∃ M, 2 ^ t' = M := ⟨_, rfl⟩
  rw [hM] at h29 e3 ⊢
  have PU := Lib.hid (fun W (hW : Below w.heap.size w W) => impl_pullM _ M L W (hv.below hW) h29 (by rw [hm.l]; exact n30) (fun x hx => Nat.lt_of_lt_of_le (hm.bd x hx) n30'))
  clear hM
  have hmn : min t' 64 = t' := by omega
  have hb0 := below_alloc' w (.cells #[.slice va (lil A).length ca, .slice vo (lil O).length co, .slice vi (lil I).length ci, .int .i64 (b : Int), .int .i64 (t : Int)] 26)
  have hk0 := Blk.new w 26 #[.slice va (lil A).length ca, .slice vo (lil O).length co, .slice vi (lil I).length ci, .int .i64 (b : Int), .int .i64 (t : Int)]
  have hb1 := below_alloc' (w.alloc (.cells #[.slice va (lil A).length ca, .slice vo (lil O).length co, .slice vi (lil I).length ci, .int .i64 (b : Int), .int .i64 (t : Int)] 26)) (.cells #[.slice va' (lil A').length ca', .slice vo' (lil O').length co', .slice vi' (lil I').length ci', .int .i64 (b' : Int), .int .i64 (t' : Int)] 26)
  have hk1 : Blk _ (w.heap.size + 1) _ _ := Blk.new' (w.alloc (.cells #[.slice va (lil A).length ca, .slice vo (lil O).length co, .slice vi (lil I).length ci, .int .i64 (b : Int), .int .i64 (t : Int)] 26)) 26 #[.slice va' (lil A').length ca', .slice vo' (lil O').length co', .slice vi' (lil I').length ci', .int .i64 (b' : Int), .int .i64 (t' : Int)] (by simp)
  have HB := Lib.hid (bthen hb0 hb1)
  have HK0 := Lib.hid (hk0.below hb1 hk0.lt)
  have HK1 := Lib.hid hk1
  clear hb0 hb1 hk0 hk1 h h' hv hT hT' hm hy hy' n30 n30'
  go_enter Tryz.func9, Tryz.ntmps9
  go_upto_region 1 with fail
  generalize World.alloc (w.alloc _) _ = W at *
  have k0 := HK0.out.cell
  have k1 := HK1.out.cell
  have l0 := HK0.out.lt
  have l1 := HK1.out.lt
  go_wp2_with fail
  refine (MC.out _ HB.out).mono ?_
  rintro e w1 ⟨rfl, hb⟩
  replace HB := Lib.hid (bthen HB.out hb)
  replace HK1 := Lib.hid (HK1.out.below hb l1)
  clear k0 k1 l0 l1 hb HK0
  have k1 := HK1.out.cell
  have l1 := HK1.out.lt
  go_wp2_with fail
  refine (PU.out _ HB.out).mono ?_
  rintro e _ ⟨rfl, rfl⟩
  clear k1 l1 e3
  go_wp2
  go_ret2
  exact ⟨rfl, HB.out⟩
/- The helpers of laws.go: big, hasInt, and the comparisons likeInts, likeTrace5, likeFormula5 where both arguments read alike; the argument of a law over bytes, opened. -/
open Go.RowKit
set_option linter.unusedVariables false
set_option linter.unusedSimpArgs false
theorem bytes_of (zs : List Int) (hwf : ∀ n ∈ zs, (Lit.int .u8 n).wf = true) : ∃ ys : List (Fin 256), ys.map (fun y => (y.val : Int)) = zs := by
  induction zs with
  | nil => exact ⟨[], rfl⟩
  | cons z zs ih =>
    obtain ⟨ys, h⟩ := ih fun n hn => hwf n (List.mem_cons_of_mem _ hn)
    have h1 := (Lit.wf_int_iff .u8 z).1 (hwf z List.mem_cons_self)
    have h2 : 0 ≤ z ∧ z ≤ 255 := h1
    refine ⟨⟨z.toNat, by omega⟩ :: ys, ?_⟩
    rw [List.map_cons, h]
    congr 1
    show ((z.toNat : Nat) : Int) = z
    omega
section
open Go.RowKit Go.ChangeShapes Go.WideShapes Go.Deep
variable {H : Type} {enc : TypeId × Value → H} {P : Program} {w : World} {base : Nat} {spare : Nat → Bool} {held : Bool}
/-- a slice of bytes that came in -/
theorem open_Y {t e : TypeId} (ht : P.underlying t = some (.slice e)) (he : P.underlying e = some (.int .u8)) (hc : P.cellsOf e = 1) {fuel : Nat} {v : Value} {x : DataW H × List MemPlace}
    (h : DataW.trod enc P w base spare held fuel t [v] = some x) : ∃ xs : List (Fin 256), Sl cY w v xs := by
  rcases open_ints ht he hc h with ⟨hcs, _⟩ | ⟨a, len, cap, zs, hcs, _, hl, hm, hz, _, hcell, hwf⟩
  · injection hcs with hv _
    subst hv
    exact ⟨[], Sl.nil⟩
  · injection hcs with hv _
    subst hv
    have hzl : len ≤ zs.length := by rw [hz]; split <;> omega
    obtain ⟨ys, hys⟩ := bytes_of zs hwf
    have hyl : ys.length = zs.length := by rw [← hys, List.length_map]
    refine ⟨ys.take len, sl_of_cells (by simp; omega) hl hm fun k u hu => ?_⟩
    have hk : k < (ys.take len).length := by
      have := (List.getElem?_eq_some_iff.1 hu).1
      rw [flat_length] at this
      simpa [cY] using this
    have h2 := flat_get (K := cY) (ys.take len) k hk 0 (by decide)
    rw [show k * cY.size + 0 = k from by simp [cY], hu] at h2
    have hk2 : k < zs.length := by simp at hk; omega
    have hk3 : k < ys.length := by omega
    rw [hcell k hk2, List.getD_eq_getElem?_getD, List.getElem?_eq_getElem hk2]
    have e1 : zs[k] = (ys[k].val : Int) := by simp [← hys]
    have e2 : (ys.take len)[k] = ys[k] := List.getElem_take
    rw [e2] at h2
    have h3 : u = .int .u8 (ys[k].val : Int) := by simpa [cY] using h2
    rw [h3, Option.getD_some, e1]
end
theorem laws_big (v : Value) (xs : List (Fin 256)) (w : World) (h : Sl cY w v xs) :
    Calls Tryz.prog 5 #[v] w fun e w' => e = .returned (.bool (decide (4096 < xs.length))) ∧ w = w' := by
  obtain ⟨A, c, rfl⟩ := h.opn
  go_enter Tryz.func5, Tryz.ntmps5
  go_wp2
  go_ret
  refine ⟨?_, rfl⟩
  by_cases h1 : 4096 < xs.length
  · rw [decide_eq_true h1]
    exact congrArg (fun z => Ending.returned (.bool z)) (by simp; omega)
  · rw [decide_eq_false h1]
    exact congrArg (fun z => Ending.returned (.bool z)) (by simp; omega)
theorem laws_hasInt (v : Value) (xs : List Int) (n : Int) (w : World) (h : Sl cI w v xs) (hl : xs.length ≤ 1073741824) :
    Calls Tryz.prog 24 #[v, .int .i64 n] w fun e w' => e = .returned (.bool (decide (n ∈ xs))) ∧ w = w' := by
  obtain ⟨A, c, rfl⟩ := h.opn
  go_enter Tryz.func24, Tryz.ntmps24
  go_wp2
  go_loop [5] (fun i => ∃ j : Nat, j ≤ xs.length ∧ i = .int .i64 j ∧ n ∉ xs.take j) (fun i => xs.length - (intOf i).toNat)
  case atStart => exact ⟨0, Nat.zero_le _, rfl, by simp⟩
  case round =>
    obtain ⟨j, hj, rfl, hn⟩ := hrel
    by_cases hlt : j < xs.length
    · obtain ⟨b, o, rfl, hb, hcell⟩ := h.cell hlt
      have c0 := hcell 0 (.int .i64 xs[j]) rfl
      rw [show o + j * cI.size + 0 = o + j by simp [cI]] at c0
      have hmem : xs[j] ∈ xs := List.getElem_mem hlt
      have HT := Lib.hid (List.take_succ_eq_append_getElem hlt)
      replace hn := Lib.hid hn
      generalize xs[j] = x at *
      replace hcell := Lib.hid hcell
      cases he : (x == n)
      · have hne : x ≠ n := by simpa using he
        replace hne := Lib.hid hne
        go_wp2
        go_round
        case rel => exact ⟨j + 1, by omega, by go_num, by rw [HT.out, List.mem_append, List.mem_singleton]; exact fun hh => hh.elim hn.out fun e => hne.out e.symm⟩
        case measure => simp [intOf]; omega
      · have he' : x = n := by simpa using he
        subst he'
        replace hmem := Lib.hid hmem
        go_wp2
        go_ret
        exact ⟨by rw [decide_eq_true hmem.out]; rfl, rfl⟩
    · obtain rfl : j = xs.length := by omega
      rw [List.take_length] at hn
      replace hn := Lib.hid hn
      go_wp2
      go_ret
      exact ⟨by rw [decide_eq_false hn.out]; rfl, rfl⟩
theorem laws_likeInts (v u : Value) (xs : List Int) (w : World) (h : Sl cI w v xs) (h' : Sl cI w u xs) (hl : xs.length ≤ 1073741824) :
    Calls Tryz.prog 104 #[v, u] w fun e w' => e = .returned (.bool true) ∧ Below w.heap.size w w' := by
  obtain ⟨A, c, rfl⟩ := h.opn
  obtain ⟨A', c', rfl⟩ := h'.opn
  go_enter Tryz.func104, Tryz.ntmps104
  go_wp2
  go_loopw [5] (fun i wr => ∃ j : Nat, j ≤ xs.length ∧ i = .int .i64 j ∧ Below w.heap.size w wr) (fun i _ => xs.length - (intOf i).toNat)
  case atStart => exact ⟨0, Nat.zero_le _, rfl, Below.refl _ _⟩
  case round =>
    obtain ⟨j, hj, rfl, hbl⟩ := hrel
    have HB := Lib.hid hbl
    by_cases hlt : j < xs.length
    · obtain ⟨b, o, rfl, hb, hcell⟩ := (h.below hbl).cell hlt
      have c0 := hcell 0 (.int .i64 xs[j]) rfl
      rw [show o + j * cI.size + 0 = o + j by simp [cI]] at c0
      obtain ⟨b', o', rfl, hb', hcell'⟩ := (h'.below hbl).cell hlt
      have c1 := hcell' 0 (.int .i64 xs[j]) rfl
      rw [show o' + j * cI.size + 0 = o' + j by simp [cI]] at c1
      generalize xs[j] = x at *
      clear hcell hcell' hbl h h'
      go_wp2
      go_quiet (fail)
      go_wp2
      go_roundw
      case rel => exact ⟨j + 1, by omega, by go_num, below_drewN HB.out _⟩
      case measure => simp [intOf]; omega
    · obtain rfl : j = xs.length := by omega
      go_wp2
      go_ret
      exact ⟨rfl, HB.out⟩
end Go.Proofs.YtgkogfjifcfkoaaGreat

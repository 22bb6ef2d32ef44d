/- Joined of several texts: 05c, 05d. -/
import Derived.Test.YtboldkahppdmbaaGreatDoorFA
import Derived.Test.YtboldkahppdmbaaGreatDoorB4
namespace Go.Proofs.YtboldkahppdmbaaGreatDoor
open Go.RowKit
set_option linter.unusedVariables false
set_option linter.unusedSimpArgs false
/- Contracts of chapters 1, 5 and 6: frames, models, boxes, truth, of the reference. -/
/-- all are masks of n elements -/
def msks (n : Int) (xs : List Int) : Bool := xs.all fun m => inR m 0 (2 ^ n.toNat - 1)
theorem msks_mk {n : Int} (h : 0 ≤ n ∧ n ≤ 8) (xs : List Int) : msks n xs = xs.all fun m => mkOk n m := by
  unfold msks
  congr 1
  funext m
  rw [mkOk_small h]
theorem q_l01Full {x : Int} (h0 : 0 ≤ x) (h1 : x ≤ 62) (W : World) (n : Nat) :
    Calls Tryz.prog 85 #[.int .i64 x] (W.drewN n) fun e w'' => e = .returned (.int .i64 (2 ^ x.toNat - 1)) ∧ ∃ m, w'' = W.drewN m :=
  (spec_l01Full x _ h0 h1).mono fun e w' hh => ⟨hh.1, n, hh.2.symm⟩
theorem q_l01In0 {x l h : Int} {b : Bool} (hq : inR x l h = b) (W : World) (n : Nat) :
    Calls Tryz.prog 69 #[.int .i64 x, .int .i64 l, .int .i64 h] (W.drewN n) fun e w'' => e = .returned (.bool b) ∧ ∃ m, w'' = W.drewN m :=
  (spec_l01In x l h _).mono fun e w' hh => ⟨by rw [hh.1, hq], n, hh.2.symm⟩
theorem spec_l01Masks (n : Int) (v : Value) (xs : List Int) (w : World) (h : Sl cI w v xs) (hl : xs.length ≤ 1073741824) (h0 : 0 ≤ n) (h1 : n ≤ 62) :
    Calls Tryz.prog 70 #[.int .i64 n, v] w fun e w' => e = .returned (.bool (msks n xs)) ∧ Below w.heap.size w w' := by
  obtain ⟨A, c, rfl⟩ := h.opn
  go_enter Tryz.func70, Tryz.ntmps70
  go_wp2
  go_loopw [5] (fun i wr => ∃ j : Nat, j ≤ xs.length ∧ i = .int .i64 j ∧ msks n (xs.take j) = true ∧ Below w.heap.size w wr) (fun i _ => xs.length - (intOf i).toNat)
  case atStart => exact ⟨0, Nat.zero_le _, rfl, rfl, Below.refl _ _⟩
  case round =>
    obtain ⟨j, hj, rfl, hh, hb⟩ := hrel
    have Hh := Lib.hid hh; clear hh
    have HW := Lib.hid hb
    by_cases hlt : j < xs.length
    · obtain ⟨b, o, rfl, hbl, hc0⟩ := (h.below hb).atI hlt
      have HT : Hid (msks n (xs.take (j + 1)) = inR xs[j] 0 (2 ^ n.toNat - 1)) := Lib.hid (by
        have := Hh.out
        unfold msks at this ⊢
        rw [List.take_succ_eq_append_getElem hlt, List.all_append, this]
        simp)
      have HA : Hid (inR xs[j] 0 (2 ^ n.toNat - 1) = false → msks n xs = false) := Lib.hid fun h1 => by
        unfold msks
        rw [← Bool.not_eq_true, List.all_eq_true]
        intro ha
        rw [ha _ (List.getElem_mem hlt)] at h1
        cases h1
      have HQ1 := Lib.hid (fun m => q_l01Full h0 h1 wr m)
      generalize xs[j] = x at *
      cases ht : inR x 0 (2 ^ n.toNat - 1)
      · have HQ2 := Lib.hid (fun m => q_l01In0 ht wr m)
        have HO := Lib.hid (HA.out ht)
        clear ht hb
        go_wp2
        go_quiet ((first | (go_at_call 85; exact HQ1.out _) | (go_at_call 69; exact HQ2.out _)))
        go_wp2
        go_ret
        exact ⟨by rw [HO.out]; rfl, below_drewN HW.out _⟩
      · have HQ2 := Lib.hid (fun m => q_l01In0 ht wr m)
        rw [ht] at HT
        clear ht hb
        go_wp2
        go_quiet ((first | (go_at_call 85; exact HQ1.out _) | (go_at_call 69; exact HQ2.out _)))
        go_wp2
        go_roundw
        case rel => exact ⟨j + 1, by omega, by go_num, HT.out, below_drewN HW.out _⟩
        case measure => simp [intOf]; omega
    · have HO : Hid (msks n xs = true) := Lib.hid (by have := Hh.out; rwa [List.take_of_length_le (by omega)] at this)
      clear hb
      go_wp2
      go_ret
      exact ⟨by rw [HO.out]; rfl, HW.out⟩
theorem spec_l05Is (n : Int) (v : Value) (xs : List Int) (w : World) (h : Sl cI w v xs) (hl : xs.length ≤ 1073741824) :
    Calls Tryz.prog 29 #[.agg #[.int .i64 n, v]] w fun e w' => e = .returned (.bool (frOk n xs)) ∧ Below w.heap.size w w' := by
  obtain ⟨A, c, rfl⟩ := h.opn
  have hb0 := below_alloc' w (.cells #[.int .i64 n, .slice A xs.length c] 26)
  have H0 := Lib.hid (h.below hb0)
  have HB := Lib.hid hb0
  clear h hb0
  cases h1 : inR n 0 8
  · have E : Hid (frOk n xs = false) := Lib.hid (by unfold frOk; rw [h1]; rfl)
    have H1 := Lib.hid (fun W => h1 ▸ spec_l01In n 0 8 W)
    clear h1
    go_enter Tryz.func29, Tryz.ntmps29
    go_wp2_with fail
    refine (H1.out _).mono ?_
    rintro e w1 ⟨rfl, rfl⟩
    go_wp2
    go_ret
    exact ⟨by rw [E.out]; rfl, HB.out⟩
  · have hr := inR_iff.1 h1
    have H1 := Lib.hid (fun W => h1 ▸ spec_l01In n 0 8 W)
    by_cases h2 : (xs.length : Int) = n
    · have E : Hid (frOk n xs = msks n xs) := Lib.hid (by
        unfold frOk relOk
        rw [h1, decide_eq_true h2, Bool.true_and, Bool.true_and, msks_mk hr, h2])
      subst h2
      have HM := Lib.hid (spec_l01Masks _ _ xs _ H0.out hl hr.1 (by omega))
      clear h1
      go_enter Tryz.func29, Tryz.ntmps29
      go_wp2_with fail
      refine (H1.out _).mono ?_
      rintro e w1 ⟨rfl, rfl⟩
      go_wp2_with fail
      refine HM.out.mono ?_
      rintro e w2 ⟨rfl, hb⟩
      have HB2 := Lib.hid (HB.out.trans (hb.mono HB.out.size))
      clear hb
      go_wp2
      go_ret
      exact ⟨by rw [E.out]; rfl, HB2.out⟩
    · have E : Hid (frOk n xs = false) := Lib.hid (by unfold frOk; rw [decide_eq_false h2]; simp)
      have d2 : ((xs.length : Int) == n) = false := beq_eq_false_iff_ne.2 h2
      clear h1 h2
      go_enter Tryz.func29, Tryz.ntmps29
      go_wp2_with fail
      refine (H1.out _).mono ?_
      rintro e w1 ⟨rfl, rfl⟩
      go_wp2
      go_ret
      exact ⟨by rw [E.out]; rfl, HB.out⟩
theorem spec_l01Box (v : Value) (ns : List Nat) (m : Nat) (w : World) (h : Sl cI w v (li ns)) (hr : RelN ns) (hm : m < 256) :
    Calls Tryz.prog 86 #[v, .int .i64 m] w fun e w' => e = .returned (.int .i64 (bx ns m : Nat)) ∧ ∃ q, w' = w.drewN q := by
  obtain ⟨A, c, rfl⟩ := h.opn
  have hlen := li_length ns
  have h8 := hr.1
  have h256 := fun i => Nat.lt_of_lt_of_le (getD_lt hr.2 i) (two_pow_256 h8)
  rw [hlen] at h ⊢
  go_enter Tryz.func86, Tryz.ntmps86
  have H256 := Lib.hid h256
  have HL := Lib.hid hlen
  clear h256 hlen hr
  go_wp2
  go_loopw [5, 6] (fun t i wr => ∃ j : Nat, j ≤ ns.length ∧ i = .int .i64 j ∧ t = .int .i64 (msk (fun i => decide (andnot (ns.getD i 0) m = 0)) j : Nat) ∧ ∃ q, wr = w.drewN q) (fun _ i _ => ns.length - (intOf i).toNat)
  case atStart => exact ⟨0, Nat.zero_le _, rfl, rfl, 0, rfl⟩
  case round =>
    obtain ⟨j, hj, rfl, rfl, qn, rfl⟩ := hrel
    by_cases hlt : j < ns.length
    · have hlt' : j < (li ns).length := by rw [HL.out]; exact hlt
      obtain ⟨b, o, rfl, hbl, hc0⟩ := h.atI hlt'
      rw [li_get] at hc0
      have hx := H256.out j
      have HS : Hid (msk (fun i => decide (andnot (ns.getD i 0) m = 0)) (j + 1) = msk (fun i => decide (andnot (ns.getD i 0) m = 0)) j ||| if decide (andnot (ns.getD j 0) m = 0) = true then 2 ^ j else 0) := Lib.hid rfl
      have hb1 := msk_bound (fun i => decide (andnot (ns.getD i 0) m = 0)) hj h8
      generalize msk (fun i => decide (andnot (ns.getD i 0) m = 0)) j = q at *
      generalize ns.getD j 0 = x at *
      have ea := i64_and_nat x m (by omega) (by omega)
      by_cases ht : andnot x m = 0
      · have hd : (((x &&& m : Nat) : Int) == (x : Int)) = true := by rw [beq_iff_eq, Int.natCast_inj]; exact (and_eq_iff x m).2 ht
        rw [decide_eq_true ht, if_pos rfl] at HS
        have e2 := i64_or_nat q (2 ^ j) (by omega) (two_pow_lt (by omega))
        rw [← cast_two_pow] at e2
        clear ht
        go_wp2
        go_quiet (fail)
        go_wp2_with fail
        refine (spec_l01One _ _ (by omega) (by omega)).mono ?_
        rintro e w1 ⟨rfl, rfl⟩
        rw [Int.toNat_natCast]
        go_wp2
        go_roundw
        case rel => exact ⟨j + 1, by omega, by go_num, by rw [HS.out], by first | exact ⟨_, rfl⟩ | exact ⟨_, World.drewN_drewN _ _ _⟩⟩
        case measure => simp [intOf]; omega
      · have hd : (((x &&& m : Nat) : Int) == (x : Int)) = false := by rw [beq_eq_false_iff_ne]; intro h; exact ht ((and_eq_iff x m).1 (by omega))
        rw [decide_eq_false ht, if_neg (by decide), Nat.or_zero] at HS
        clear ht
        go_wp2
        go_quiet (fail)
        go_wp2
        go_roundw
        case rel => exact ⟨j + 1, by omega, by go_num, by rw [HS.out], by first | exact ⟨_, rfl⟩ | exact ⟨_, World.drewN_drewN _ _ _⟩⟩
        case measure => simp [intOf]; omega
    · obtain rfl : j = ns.length := by omega
      go_wp2
      go_ret
      exact ⟨rfl, _, rfl⟩
/- Contracts of chapter 6: models and truth, of the reference. Written by gen05d.py. -/
/-- a frame's arrows and a model's values lie in w -/
structure Mdl (w : World) (va vu : Value) (ns us : List Nat) : Prop where
  a : Sl cI w va (li ns)
  u : Sl cI w vu (li us)
theorem Mdl.below {w w' : World} {va vu : Value} {ns us : List Nat} (h : Mdl w va vu ns us) (hb : Below w.heap.size w w') : Mdl w' va vu ns us := ⟨h.a.below hb, h.u.below hb⟩
theorem full_cast {k : Nat} (h : k ≤ 62) : (2 : Int) ^ k - 1 = ((2 ^ k - 1 : Nat) : Int) := by rw [Int.ofNat_sub (Nat.pow_pos (by decide)), ← cast_two_pow]; rfl
theorem spec_l01Full' (k F : Nat) (hF : F = 2 ^ k - 1) (w : World) (h1 : k ≤ 62) :
    Calls Tryz.prog 85 #[.int .i64 (k : Int)] w fun e w' => e = .returned (.int .i64 (F : Nat)) ∧ w = w' :=
  (spec_l01Full k w (by omega) (by omega)).mono fun e w' ⟨he, hw⟩ => ⟨by rw [he, Int.toNat_natCast, full_cast h1, hF], hw⟩
theorem spec_l06Is (n : Int) (v u : Value) (xs vs : List Int) (w : World) (h : Sl cI w v xs) (h' : Sl cI w u vs) (hl : xs.length ≤ 1073741824) (hl' : vs.length ≤ 1073741824) :
    Calls Tryz.prog 43 #[.agg #[.int .i64 n, v, u]] w fun e w' => e = .returned (.bool (mdOk n xs vs)) ∧ Below w.heap.size w w' := by
  obtain ⟨A, c, rfl⟩ := h.opn
  obtain ⟨A', c', rfl⟩ := h'.opn
  have hb0 := below_alloc' w (.cells #[.int .i64 n, .slice A xs.length c, .slice A' vs.length c'] 28)
  have HF := Lib.hid (spec_l05Is n _ xs _ (h.below hb0) hl)
  have H0' := Lib.hid (h'.below hb0)
  have HB := Lib.hid hb0
  have hk0 := Blk.new w 28 #[.int .i64 n, .slice A xs.length c, .slice A' vs.length c']
  have HK := Lib.hid hk0
  have hkl := hk0.lt
  cases h1 : frOk n xs
  · have E : Hid (mdOk n xs vs = false) := Lib.hid (by unfold mdOk; rw [h1]; rfl)
    rw [h1] at HF
    clear h1 h h' hb0 hk0
    go_enter Tryz.func43, Tryz.ntmps43
    go_wp2_with fail
    refine HF.out.mono ?_
    rintro e w1 ⟨rfl, hb⟩
    have HB1 := Lib.hid (HB.out.trans (hb.mono HB.out.size))
    clear hb
    go_wp2
    go_ret
    exact ⟨by rw [E.out]; rfl, HB1.out⟩
  · have hr : 0 ≤ n ∧ n ≤ 8 := by
      unfold frOk at h1
      rw [Bool.and_eq_true] at h1
      exact inR_iff.1 h1.1
    rw [h1] at HF
    by_cases h2 : vs.length = 6
    · have E : Hid (mdOk n xs vs = msks n vs) := Lib.hid (by unfold mdOk; rw [h1, decide_eq_true h2, msks_mk hr]; rfl)
      have H2 := Lib.hid h2
      clear h1 h h' hb0 hk0
      go_enter Tryz.func43, Tryz.ntmps43
      rw [H2.out] at HK HB HF hkl H0' ⊢
      clear h2
      go_wp2_with fail
      refine HF.out.mono ?_
      rintro e w1 ⟨rfl, hb⟩
      have hk1 := HK.out.below hb hkl
      have k1 := hk1.cell
      have k2 := hk1.lt
      have H1' := Lib.hid (H0'.out.below hb)
      have HB1 := Lib.hid (HB.out.trans (hb.mono HB.out.size))
      clear hb hk1
      go_wp2_with fail
      refine (spec_l01Masks n _ vs _ H1'.out hl' hr.1 (by omega)).mono ?_
      rintro e w2 ⟨rfl, hb2⟩
      have HB2 := Lib.hid (bthen HB1.out hb2)
      clear hb2 k1
      go_wp2
      go_ret
      exact ⟨by rw [E.out]; rfl, HB2.out⟩
    · have E : Hid (mdOk n xs vs = false) := Lib.hid (by unfold mdOk; rw [decide_eq_false h2]; simp)
      have d2 : ((vs.length : Int) == 6) = false := beq_eq_false_iff_ne.2 (by omega)
      clear h1 h h' hb0 hk0 h2
      go_enter Tryz.func43, Tryz.ntmps43
      go_wp2_with fail
      refine HF.out.mono ?_
      rintro e w1 ⟨rfl, hb⟩
      have hk1 := HK.out.below hb hkl
      have k1 := hk1.cell
      have k2 := hk1.lt
      have HB1 := Lib.hid (HB.out.trans (hb.mono HB.out.size))
      clear hb hk1
      go_wp2
      go_ret
      exact ⟨by rw [E.out]; rfl, HB1.out⟩
set_option maxRecDepth 100000 in
theorem spec_l06Truth_var (t : Nat) (ht : t ≤ 5) (ns us : List Nat) (A0 A1 : Option Addr) (c0 c1 : Nat) (hr : RelN ns) (hu6 : us.length = 6) (hu : ∀ x ∈ us, x < 2 ^ ns.length)
    (v : Value) (w : World) (h : Sl cN w v (enc (.var t))) (hl : (enc (.var t)).length ≤ 1048576) (hm : Mdl w (.slice A0 ns.length c0) (.slice A1 6 c1) ns us) :
    Calls Tryz.prog 44 #[.agg #[.int .i64 (ns.length : Int), .slice A0 ns.length c0, .slice A1 6 c1], v] w fun e w' => e = .returned (.int .i64 (tv ns us (.var t) : Nat)) ∧ Below w.heap.size w w' := by
  obtain ⟨A, c, rfl⟩ := h.opn
  simp only [enc, List.length_cons, List.length_nil] at h ⊢
  have hb0 := below_alloc' w (.cells #[.int .i64 (ns.length : Int), .slice A0 ns.length c0, .slice A1 6 c1] 28)
  have HM := Lib.hid (hm.below hb0)
  have HB := Lib.hid hb0
  have hk0 := Blk.new w 28 #[.int .i64 (ns.length : Int), .slice A0 ns.length c0, .slice A1 6 c1]
  have d0 : (w.alloc (.cells #[.int .i64 (ns.length : Int), .slice A0 ns.length c0, .slice A1 6 c1] 28)).cell? ⟨w.heap.size, 0, none⟩ = some (.int .i64 (ns.length : Int)) := hk0.cell 0
  have d1 : (w.alloc (.cells #[.int .i64 (ns.length : Int), .slice A0 ns.length c0, .slice A1 6 c1] 28)).cell? ⟨w.heap.size, 1, none⟩ = some (.slice A0 ns.length c0) := hk0.cell 1
  have d2 : (w.alloc (.cells #[.int .i64 (ns.length : Int), .slice A0 ns.length c0, .slice A1 6 c1] 28)).cell? ⟨w.heap.size, 2, none⟩ = some (.slice A1 6 c1) := hk0.cell 2
  have hkl := hk0.lt
  have h8 := hr.1
  obtain ⟨F, hF⟩ : ∃ F : Nat, F = 2 ^ ns.length - 1 := ⟨_, rfl⟩
  have hF256 : F < 256 := by have := two_pow_256 h8; have := full_lt ns.length; omega
  have HF := Lib.hid (fun W => spec_l01Full' ns.length F hF W (by omega))
  obtain ⟨b, o, rfl, hbl, hc0, hc1⟩ := (h.below hb0).atN0
  obtain ⟨b2, o2, hA1, hb2, hc2⟩ := HM.out.u.atI (k := t) (by rw [li_length]; omega)
  subst hA1
  rw [li_get] at hc2
  have E : Hid (tv ns us (.var t) = us.getD t 0) := Lib.hid rfl
  have i1 : t < 6 := by omega
  have i2 : (t : Int) < 6 := by omega
  clear h hm hb0 hk0 hF
  generalize us.getD t 0 = x at *
  go_enter Tryz.func44, Tryz.ntmps44
  go_wp2_with fail
  refine (HF.out _).mono ?_
  rintro e w1 ⟨rfl, rfl⟩
  go_wp2
  go_quiet (fail)
  go_wp2
  go_ret
  exact ⟨by rw [E.out]; rfl, below_drewN HB.out _⟩
set_option maxRecDepth 100000 in
theorem spec_l06Truth_fls (ns us : List Nat) (A0 A1 : Option Addr) (c0 c1 : Nat) (hr : RelN ns) (hu6 : us.length = 6) (hu : ∀ x ∈ us, x < 2 ^ ns.length)
    (v : Value) (w : World) (h : Sl cN w v (enc .fls)) (hl : (enc .fls).length ≤ 1048576) (hm : Mdl w (.slice A0 ns.length c0) (.slice A1 6 c1) ns us) :
    Calls Tryz.prog 44 #[.agg #[.int .i64 (ns.length : Int), .slice A0 ns.length c0, .slice A1 6 c1], v] w fun e w' => e = .returned (.int .i64 (tv ns us .fls : Nat)) ∧ Below w.heap.size w w' := by
  obtain ⟨A, c, rfl⟩ := h.opn
  simp only [enc, List.length_cons, List.length_nil] at h ⊢
  have hb0 := below_alloc' w (.cells #[.int .i64 (ns.length : Int), .slice A0 ns.length c0, .slice A1 6 c1] 28)
  have HM := Lib.hid (hm.below hb0)
  have HB := Lib.hid hb0
  have hk0 := Blk.new w 28 #[.int .i64 (ns.length : Int), .slice A0 ns.length c0, .slice A1 6 c1]
  have d0 : (w.alloc (.cells #[.int .i64 (ns.length : Int), .slice A0 ns.length c0, .slice A1 6 c1] 28)).cell? ⟨w.heap.size, 0, none⟩ = some (.int .i64 (ns.length : Int)) := hk0.cell 0
  have d1 : (w.alloc (.cells #[.int .i64 (ns.length : Int), .slice A0 ns.length c0, .slice A1 6 c1] 28)).cell? ⟨w.heap.size, 1, none⟩ = some (.slice A0 ns.length c0) := hk0.cell 1
  have d2 : (w.alloc (.cells #[.int .i64 (ns.length : Int), .slice A0 ns.length c0, .slice A1 6 c1] 28)).cell? ⟨w.heap.size, 2, none⟩ = some (.slice A1 6 c1) := hk0.cell 2
  have hkl := hk0.lt
  have h8 := hr.1
  obtain ⟨F, hF⟩ : ∃ F : Nat, F = 2 ^ ns.length - 1 := ⟨_, rfl⟩
  have hF256 : F < 256 := by have := two_pow_256 h8; have := full_lt ns.length; omega
  have HF := Lib.hid (fun W => spec_l01Full' ns.length F hF W (by omega))
  obtain ⟨b, o, rfl, hbl, hc0, hc1⟩ := (h.below hb0).atN0
  clear h hm hb0 hk0 hF
  go_enter Tryz.func44, Tryz.ntmps44
  go_wp2_with fail
  refine (HF.out _).mono ?_
  rintro e w1 ⟨rfl, rfl⟩
  go_wp2
  go_ret
  exact ⟨rfl, HB.out⟩
set_option maxRecDepth 100000 in
theorem spec_l06Truth_box (a : Fm) (ns us : List Nat) (A0 A1 : Option Addr) (c0 c1 : Nat) (hr : RelN ns) (hu6 : us.length = 6) (hu : ∀ x ∈ us, x < 2 ^ ns.length)
    (iha : ∀ (v : Value) (W : World), Sl cN W v (enc a) → Mdl W (.slice A0 ns.length c0) (.slice A1 6 c1) ns us → Calls Tryz.prog 44 #[.agg #[.int .i64 (ns.length : Int), .slice A0 ns.length c0, .slice A1 6 c1], v] W fun e w' => e = .returned (.int .i64 (tv ns us a : Nat)) ∧ Below W.heap.size W w')
    (v : Value) (w : World) (h : Sl cN w v (enc (.un .box a))) (hl : (enc (.un .box a)).length ≤ 1048576) (hm : Mdl w (.slice A0 ns.length c0) (.slice A1 6 c1) ns us) :
    Calls Tryz.prog 44 #[.agg #[.int .i64 (ns.length : Int), .slice A0 ns.length c0, .slice A1 6 c1], v] w fun e w' => e = .returned (.int .i64 (tv ns us (.un .box a) : Nat)) ∧ Below w.heap.size w w' := by
  rw [enc_un] at h hl
  obtain ⟨A, c, rfl⟩ := h.opn
  obtain ⟨-, hcap, hmm⟩ := h.cap
  obtain ⟨b, o, rfl, hb, hc0, hc1⟩ := h.atN0
  simp only [UK.i] at hc0
  have hL0 : 1 < ((UK.box.i, (0 : Int)) :: (enc a ++ [])).length := by have := enc_pos a; simp; omega
  have hcut := h.cutAt (A' := some ⟨b, o + 2, none⟩) (n' := ((UK.box.i, (0 : Int)) :: (enc a ++ [])).length - 1) (i := 1) (j := ((UK.box.i, (0 : Int)) :: (enc a ++ [])).length) (c' := c - 1) (by omega) (by omega) rfl
    (fun b' o' hA => by injection hA with hA; injection hA with h1 h2 _; subst h1; subst h2; rfl) (by omega) (by omega)
  have e1 : List.take (((UK.box.i, (0 : Int)) :: (enc a ++ [])).length - 1) (List.drop 1 ((UK.box.i, (0 : Int)) :: (enc a ++ []))) = enc a := by simp
  rw [e1] at hcut
  clear e1 h
  generalize ((UK.box.i, (0 : Int)) :: (enc a ++ [])).length = L at *
  have hb0 := below_alloc' w (.cells #[.int .i64 (ns.length : Int), .slice A0 ns.length c0, .slice A1 6 c1] 28)
  have HM := Lib.hid (hm.below hb0)
  have HB := Lib.hid hb0
  have hk0 := Blk.new w 28 #[.int .i64 (ns.length : Int), .slice A0 ns.length c0, .slice A1 6 c1]
  have d0 : (w.alloc (.cells #[.int .i64 (ns.length : Int), .slice A0 ns.length c0, .slice A1 6 c1] 28)).cell? ⟨w.heap.size, 0, none⟩ = some (.int .i64 (ns.length : Int)) := hk0.cell 0
  have d1 : (w.alloc (.cells #[.int .i64 (ns.length : Int), .slice A0 ns.length c0, .slice A1 6 c1] 28)).cell? ⟨w.heap.size, 1, none⟩ = some (.slice A0 ns.length c0) := hk0.cell 1
  have d2 : (w.alloc (.cells #[.int .i64 (ns.length : Int), .slice A0 ns.length c0, .slice A1 6 c1] 28)).cell? ⟨w.heap.size, 2, none⟩ = some (.slice A1 6 c1) := hk0.cell 2
  have hkl := hk0.lt
  have h8 := hr.1
  obtain ⟨F, hF⟩ : ∃ F : Nat, F = 2 ^ ns.length - 1 := ⟨_, rfl⟩
  have hF256 : F < 256 := by have := two_pow_256 h8; have := full_lt ns.length; omega
  have HF := Lib.hid (fun W => spec_l01Full' ns.length F hF W (by omega))
  have HC := Lib.hid (hcut.below hb0)
  replace hc0 := (hb0.cell (p := ⟨b, o, none⟩) hb).trans hc0
  have ha := Nat.lt_of_lt_of_le (tv_lt ns us hu a) (two_pow_256 h8)
  have HI := Lib.hid iha; clear iha
  have HR := Lib.hid hr
  have E : Hid (tv ns us (.un .box a) = bx ns (tv ns us a)) := Lib.hid rfl
  clear hcut hm hb0 hk0 hc1 hu hr hF
  generalize tv ns us a = q at *
  have i1 : (1 : Int) ≤ (L : Int) := by omega
  have i2 : (0 : Int) < (L : Int) := by omega
  have i3 : 0 < L := by omega
  have i4 : ¬ c = 1 := by omega
  go_enter Tryz.func44, Tryz.ntmps44
  go_wp2_with fail
  refine (HF.out _).mono ?_
  rintro e w1 ⟨rfl, rfl⟩
  go_wp2
  first | go_region_held3 (fun w' => w'.cell? ⟨w.heap.size, 0, none⟩ = some (.int .i64 (ns.length : Int)) ∧ w'.cell? ⟨w.heap.size, 1, none⟩ = some (.slice A0 ns.length c0) ∧ w'.cell? ⟨w.heap.size, 2, none⟩ = some (.slice A1 6 c1)) (first | exact ⟨d0', d1', d2'⟩ | exact ⟨d0, d1, d2⟩ | (simp [*]; done)) (first | (go_at_call 44; refine (HI.out _ _ (HC.out.below (below_drewN (Below.refl _ _) 1)) (HM.out.below (below_drewN (Below.refl _ _) 1))).mono ?_; rintro e w2 ⟨rfl, hb2⟩; have hb3 : Below (w.alloc (.cells #[.int .i64 (ns.length : Int), .slice A0 ns.length c0, .slice A1 6 c1] 28)).heap.size (w.alloc (.cells #[.int .i64 (ns.length : Int), .slice A0 ns.length c0, .slice A1 6 c1] 28)) w2 := (below_drewN (Below.refl _ _) 1).trans hb2; have d0' := (hb3.cell (p := ⟨w.heap.size, 0, none⟩) hkl).trans d0; have d1' := (hb3.cell (p := ⟨w.heap.size, 1, none⟩) hkl).trans d1; have d2' := (hb3.cell (p := ⟨w.heap.size, 2, none⟩) hkl).trans d2; have hm3 := HM.out.below hb3) | (go_at_call 86; refine (spec_l01Box _ ns _ _ hm3.a HR.out (by omega)).mono ?_; rintro e w3 ⟨rfl, qn, rfl⟩)) | fail
  all_goals
    have HB3 := Lib.hid (below_drewN (HB.out.trans (hb3.mono HB.out.size)) qn)
    clear d0' d1' d2' hb2 hb3 hm3
    go_wp2
    go_ret
    exact ⟨by rw [E.out]; rfl, HB3.out⟩
set_option maxRecDepth 100000 in
theorem spec_l06Truth_dia (a : Fm) (ns us : List Nat) (A0 A1 : Option Addr) (c0 c1 : Nat) (hr : RelN ns) (hu6 : us.length = 6) (hu : ∀ x ∈ us, x < 2 ^ ns.length)
    (iha : ∀ (v : Value) (W : World), Sl cN W v (enc a) → Mdl W (.slice A0 ns.length c0) (.slice A1 6 c1) ns us → Calls Tryz.prog 44 #[.agg #[.int .i64 (ns.length : Int), .slice A0 ns.length c0, .slice A1 6 c1], v] W fun e w' => e = .returned (.int .i64 (tv ns us a : Nat)) ∧ Below W.heap.size W w')
    (v : Value) (w : World) (h : Sl cN w v (enc (.un .dia a))) (hl : (enc (.un .dia a)).length ≤ 1048576) (hm : Mdl w (.slice A0 ns.length c0) (.slice A1 6 c1) ns us) :
    Calls Tryz.prog 44 #[.agg #[.int .i64 (ns.length : Int), .slice A0 ns.length c0, .slice A1 6 c1], v] w fun e w' => e = .returned (.int .i64 (tv ns us (.un .dia a) : Nat)) ∧ Below w.heap.size w w' := by
  rw [enc_un] at h hl
  obtain ⟨A, c, rfl⟩ := h.opn
  obtain ⟨-, hcap, hmm⟩ := h.cap
  obtain ⟨b, o, rfl, hb, hc0, hc1⟩ := h.atN0
  simp only [UK.i] at hc0
  have hL0 : 1 < ((UK.dia.i, (0 : Int)) :: (enc a ++ [])).length := by have := enc_pos a; simp; omega
  have hcut := h.cutAt (A' := some ⟨b, o + 2, none⟩) (n' := ((UK.dia.i, (0 : Int)) :: (enc a ++ [])).length - 1) (i := 1) (j := ((UK.dia.i, (0 : Int)) :: (enc a ++ [])).length) (c' := c - 1) (by omega) (by omega) rfl
    (fun b' o' hA => by injection hA with hA; injection hA with h1 h2 _; subst h1; subst h2; rfl) (by omega) (by omega)
  have e1 : List.take (((UK.dia.i, (0 : Int)) :: (enc a ++ [])).length - 1) (List.drop 1 ((UK.dia.i, (0 : Int)) :: (enc a ++ []))) = enc a := by simp
  rw [e1] at hcut
  clear e1 h
  generalize ((UK.dia.i, (0 : Int)) :: (enc a ++ [])).length = L at *
  have hb0 := below_alloc' w (.cells #[.int .i64 (ns.length : Int), .slice A0 ns.length c0, .slice A1 6 c1] 28)
  have HM := Lib.hid (hm.below hb0)
  have HB := Lib.hid hb0
  have hk0 := Blk.new w 28 #[.int .i64 (ns.length : Int), .slice A0 ns.length c0, .slice A1 6 c1]
  have d0 : (w.alloc (.cells #[.int .i64 (ns.length : Int), .slice A0 ns.length c0, .slice A1 6 c1] 28)).cell? ⟨w.heap.size, 0, none⟩ = some (.int .i64 (ns.length : Int)) := hk0.cell 0
  have d1 : (w.alloc (.cells #[.int .i64 (ns.length : Int), .slice A0 ns.length c0, .slice A1 6 c1] 28)).cell? ⟨w.heap.size, 1, none⟩ = some (.slice A0 ns.length c0) := hk0.cell 1
  have d2 : (w.alloc (.cells #[.int .i64 (ns.length : Int), .slice A0 ns.length c0, .slice A1 6 c1] 28)).cell? ⟨w.heap.size, 2, none⟩ = some (.slice A1 6 c1) := hk0.cell 2
  have hkl := hk0.lt
  have h8 := hr.1
  obtain ⟨F, hF⟩ : ∃ F : Nat, F = 2 ^ ns.length - 1 := ⟨_, rfl⟩
  have hF256 : F < 256 := by have := two_pow_256 h8; have := full_lt ns.length; omega
  have HF := Lib.hid (fun W => spec_l01Full' ns.length F hF W (by omega))
  have HC := Lib.hid (hcut.below hb0)
  replace hc0 := (hb0.cell (p := ⟨b, o, none⟩) hb).trans hc0
  have ha := Nat.lt_of_lt_of_le (tv_lt ns us hu a) (two_pow_256 h8)
  have HI := Lib.hid iha; clear iha
  have HR := Lib.hid hr
  have E : Hid (tv ns us (.un .dia a) = andnot F (bx ns (andnot F (tv ns us a)))) := Lib.hid (by rw [hF]; rfl)
  have hq2 : andnot F (tv ns us a) < 256 := andnot_lt (k := 8) hF256
  have e2 := i64_andNot_nat F (tv ns us a) (by omega) (by omega)
  have hq3 : bx ns (andnot F (tv ns us a)) < 256 := Nat.lt_of_lt_of_le (bx_lt _ _) (two_pow_256 h8)
  have e3 := i64_andNot_nat F (bx ns (andnot F (tv ns us a))) (by omega) (by omega)
  clear hcut hm hb0 hk0 hc1 hu hr hF
  generalize tv ns us a = q at *
  have i1 : (1 : Int) ≤ (L : Int) := by omega
  have i2 : (0 : Int) < (L : Int) := by omega
  have i3 : 0 < L := by omega
  have i4 : ¬ c = 1 := by omega
  go_enter Tryz.func44, Tryz.ntmps44
  go_wp2_with fail
  refine (HF.out _).mono ?_
  rintro e w1 ⟨rfl, rfl⟩
  go_wp2
  first | go_region_held3 (fun w' => w'.cell? ⟨w.heap.size, 0, none⟩ = some (.int .i64 (ns.length : Int)) ∧ w'.cell? ⟨w.heap.size, 1, none⟩ = some (.slice A0 ns.length c0) ∧ w'.cell? ⟨w.heap.size, 2, none⟩ = some (.slice A1 6 c1)) (first | exact ⟨d0', d1', d2'⟩ | exact ⟨d0, d1, d2⟩ | (simp [*]; done)) (first | (go_at_call 44; refine (HI.out _ _ (HC.out.below (below_drewN (Below.refl _ _) 1)) (HM.out.below (below_drewN (Below.refl _ _) 1))).mono ?_; rintro e w2 ⟨rfl, hb2⟩; have hb3 : Below (w.alloc (.cells #[.int .i64 (ns.length : Int), .slice A0 ns.length c0, .slice A1 6 c1] 28)).heap.size (w.alloc (.cells #[.int .i64 (ns.length : Int), .slice A0 ns.length c0, .slice A1 6 c1] 28)) w2 := (below_drewN (Below.refl _ _) 1).trans hb2; have d0' := (hb3.cell (p := ⟨w.heap.size, 0, none⟩) hkl).trans d0; have d1' := (hb3.cell (p := ⟨w.heap.size, 1, none⟩) hkl).trans d1; have d2' := (hb3.cell (p := ⟨w.heap.size, 2, none⟩) hkl).trans d2; have hm3 := HM.out.below hb3) | (go_at_call 86; refine (spec_l01Box _ ns _ _ hm3.a HR.out (by omega)).mono ?_; rintro e w3 ⟨rfl, qn, rfl⟩)) | fail
  all_goals
    have HB3 := Lib.hid (below_drewN (HB.out.trans (hb3.mono HB.out.size)) qn)
    clear d0' d1' d2' hb2 hb3 hm3
    go_wp2
    go_ret
    exact ⟨by rw [E.out]; rfl, HB3.out⟩
set_option maxRecDepth 100000 in
theorem spec_l06Truth_and (a b : Fm) (ns us : List Nat) (A0 A1 : Option Addr) (c0 c1 : Nat) (hr : RelN ns) (hu6 : us.length = 6) (hu : ∀ x ∈ us, x < 2 ^ ns.length)
    (iha : ∀ (v : Value) (W : World), Sl cN W v (enc a) → Mdl W (.slice A0 ns.length c0) (.slice A1 6 c1) ns us → Calls Tryz.prog 44 #[.agg #[.int .i64 (ns.length : Int), .slice A0 ns.length c0, .slice A1 6 c1], v] W fun e w' => e = .returned (.int .i64 (tv ns us a : Nat)) ∧ Below W.heap.size W w')
    (ihb : ∀ (v : Value) (W : World), Sl cN W v (enc b) → Mdl W (.slice A0 ns.length c0) (.slice A1 6 c1) ns us → Calls Tryz.prog 44 #[.agg #[.int .i64 (ns.length : Int), .slice A0 ns.length c0, .slice A1 6 c1], v] W fun e w' => e = .returned (.int .i64 (tv ns us b : Nat)) ∧ Below W.heap.size W w')
    (v : Value) (w : World) (h : Sl cN w v (enc (.bin .and a b))) (hl : (enc (.bin .and a b)).length ≤ 1048576) (hm : Mdl w (.slice A0 ns.length c0) (.slice A1 6 c1) ns us) :
    Calls Tryz.prog 44 #[.agg #[.int .i64 (ns.length : Int), .slice A0 ns.length c0, .slice A1 6 c1], v] w fun e w' => e = .returned (.int .i64 (tv ns us (.bin .and a b) : Nat)) ∧ Below w.heap.size w w' := by
  rw [enc_bin] at h hl
  have hleft := fun W (hW : Sl cN W v ((BK.and.i, (0 : Int)) :: (enc a ++ (enc b ++ [])))) => spec_l02Left v _ a _ W hW hl
  have hright := fun W (hW : Sl cN W v ((BK.and.i, (0 : Int)) :: (enc a ++ (enc b ++ [])))) => spec_l02Right v _ a b W (by simpa using hW) (by simpa using hl)
  have HL := Lib.hid hleft; clear hleft
  have HR := Lib.hid hright; clear hright
  obtain ⟨A, c, rfl⟩ := h.opn
  obtain ⟨bb, o, rfl, hb, hc0, hc1⟩ := h.atN0
  simp only [BK.i] at hc0
  have hL0 : 0 < ((BK.and.i, (0 : Int)) :: (enc a ++ (enc b ++ []))).length := by simp
  generalize hxs : ((BK.and.i, (0 : Int)) :: (enc a ++ (enc b ++ []))) = xs at *
  clear hxs
  generalize xs.length = L at *
  have hb0 := below_alloc' w (.cells #[.int .i64 (ns.length : Int), .slice A0 ns.length c0, .slice A1 6 c1] 28)
  have HM := Lib.hid (hm.below hb0)
  have HB := Lib.hid hb0
  have hk0 := Blk.new w 28 #[.int .i64 (ns.length : Int), .slice A0 ns.length c0, .slice A1 6 c1]
  have d0 : (w.alloc (.cells #[.int .i64 (ns.length : Int), .slice A0 ns.length c0, .slice A1 6 c1] 28)).cell? ⟨w.heap.size, 0, none⟩ = some (.int .i64 (ns.length : Int)) := hk0.cell 0
  have d1 : (w.alloc (.cells #[.int .i64 (ns.length : Int), .slice A0 ns.length c0, .slice A1 6 c1] 28)).cell? ⟨w.heap.size, 1, none⟩ = some (.slice A0 ns.length c0) := hk0.cell 1
  have d2 : (w.alloc (.cells #[.int .i64 (ns.length : Int), .slice A0 ns.length c0, .slice A1 6 c1] 28)).cell? ⟨w.heap.size, 2, none⟩ = some (.slice A1 6 c1) := hk0.cell 2
  have hkl := hk0.lt
  have h8 := hr.1
  obtain ⟨F, hF⟩ : ∃ F : Nat, F = 2 ^ ns.length - 1 := ⟨_, rfl⟩
  have hF256 : F < 256 := by have := two_pow_256 h8; have := full_lt ns.length; omega
  have HF := Lib.hid (fun W => spec_l01Full' ns.length F hF W (by omega))
  have Hh := Lib.hid (h.below hb0)
  replace hc0 := (hb0.cell (p := ⟨bb, o, none⟩) hb).trans hc0
  have ha := Nat.lt_of_lt_of_le (tv_lt ns us hu a) (two_pow_256 h8)
  have hbq := Nat.lt_of_lt_of_le (tv_lt ns us hu b) (two_pow_256 h8)
  have HIA := Lib.hid iha; clear iha
  have HIB := Lib.hid ihb; clear ihb
  have E : Hid (tv ns us (.bin .and a b) = tv ns us a &&& tv ns us b) := Lib.hid rfl
  have e2 := i64_and_nat (tv ns us a) (tv ns us b) (by omega) (by omega)
  clear h hm hb0 hk0 hc1 hu hr hF
  generalize tv ns us a = q at *
  generalize tv ns us b = p at *
  go_enter Tryz.func44, Tryz.ntmps44
  go_wp2_with fail
  refine (HF.out _).mono ?_
  rintro e w1 ⟨rfl, rfl⟩
  go_wp2
  first | go_region_held3 (fun w' => w'.cell? ⟨w.heap.size, 0, none⟩ = some (.int .i64 (ns.length : Int)) ∧ w'.cell? ⟨w.heap.size, 1, none⟩ = some (.slice A0 ns.length c0) ∧ w'.cell? ⟨w.heap.size, 2, none⟩ = some (.slice A1 6 c1)) (first | exact ⟨d0'', d1'', d2''⟩ | exact ⟨d0', d1', d2'⟩ | exact ⟨d0, d1, d2⟩ | (simp [*]; done)) (first | (go_at_call 87; refine (HL.out _ (Hh.out.below (below_drewN (Below.refl _ _) 1))).mono ?_; rintro e w2 ⟨u1, rfl, hs1, rfl⟩) | (go_at_call 88; refine (HR.out _ (Hh.out.below hb3)).mono ?_; rintro e w3 ⟨u2, rfl, hs2, rfl⟩) | (go_at_call 44; (with_reducible refine (HIB.out u2 _ hs2 (HM.out.below hb3)).mono ?_); rintro e w4 ⟨rfl, hb4⟩; have hb5 := bthen hb3 hb4; have d0'' := (hb5.cell (p := ⟨w.heap.size, 0, none⟩) hkl).trans d0; have d1'' := (hb5.cell (p := ⟨w.heap.size, 1, none⟩) hkl).trans d1; have d2'' := (hb5.cell (p := ⟨w.heap.size, 2, none⟩) hkl).trans d2) | (go_at_call 44; (with_reducible refine (HIA.out u1 _ hs1 (HM.out.below (below_drewN (Below.refl _ _) 1))).mono ?_); rintro e w2 ⟨rfl, hb2⟩; have hb3 : Below (w.alloc (.cells #[.int .i64 (ns.length : Int), .slice A0 ns.length c0, .slice A1 6 c1] 28)).heap.size (w.alloc (.cells #[.int .i64 (ns.length : Int), .slice A0 ns.length c0, .slice A1 6 c1] 28)) w2 := (below_drewN (Below.refl _ _) 1).trans hb2; have d0' := (hb3.cell (p := ⟨w.heap.size, 0, none⟩) hkl).trans d0; have d1' := (hb3.cell (p := ⟨w.heap.size, 1, none⟩) hkl).trans d1; have d2' := (hb3.cell (p := ⟨w.heap.size, 2, none⟩) hkl).trans d2)) | fail
  all_goals
    have HB3 := Lib.hid (HB.out.trans (hb5.mono HB.out.size))
    clear d0' d1' d2' d0'' d1'' d2'' hb2 hb3 hb4 hb5
    go_wp2
    go_ret
    exact ⟨by rw [E.out]; rfl, HB3.out⟩
set_option maxRecDepth 100000 in
theorem spec_l06Truth_or (a b : Fm) (ns us : List Nat) (A0 A1 : Option Addr) (c0 c1 : Nat) (hr : RelN ns) (hu6 : us.length = 6) (hu : ∀ x ∈ us, x < 2 ^ ns.length)
    (iha : ∀ (v : Value) (W : World), Sl cN W v (enc a) → Mdl W (.slice A0 ns.length c0) (.slice A1 6 c1) ns us → Calls Tryz.prog 44 #[.agg #[.int .i64 (ns.length : Int), .slice A0 ns.length c0, .slice A1 6 c1], v] W fun e w' => e = .returned (.int .i64 (tv ns us a : Nat)) ∧ Below W.heap.size W w')
    (ihb : ∀ (v : Value) (W : World), Sl cN W v (enc b) → Mdl W (.slice A0 ns.length c0) (.slice A1 6 c1) ns us → Calls Tryz.prog 44 #[.agg #[.int .i64 (ns.length : Int), .slice A0 ns.length c0, .slice A1 6 c1], v] W fun e w' => e = .returned (.int .i64 (tv ns us b : Nat)) ∧ Below W.heap.size W w')
    (v : Value) (w : World) (h : Sl cN w v (enc (.bin .or a b))) (hl : (enc (.bin .or a b)).length ≤ 1048576) (hm : Mdl w (.slice A0 ns.length c0) (.slice A1 6 c1) ns us) :
    Calls Tryz.prog 44 #[.agg #[.int .i64 (ns.length : Int), .slice A0 ns.length c0, .slice A1 6 c1], v] w fun e w' => e = .returned (.int .i64 (tv ns us (.bin .or a b) : Nat)) ∧ Below w.heap.size w w' := by
  rw [enc_bin] at h hl
  have hleft := fun W (hW : Sl cN W v ((BK.or.i, (0 : Int)) :: (enc a ++ (enc b ++ [])))) => spec_l02Left v _ a _ W hW hl
  have hright := fun W (hW : Sl cN W v ((BK.or.i, (0 : Int)) :: (enc a ++ (enc b ++ [])))) => spec_l02Right v _ a b W (by simpa using hW) (by simpa using hl)
  have HL := Lib.hid hleft; clear hleft
  have HR := Lib.hid hright; clear hright
  obtain ⟨A, c, rfl⟩ := h.opn
  obtain ⟨bb, o, rfl, hb, hc0, hc1⟩ := h.atN0
  simp only [BK.i] at hc0
  have hL0 : 0 < ((BK.or.i, (0 : Int)) :: (enc a ++ (enc b ++ []))).length := by simp
  generalize hxs : ((BK.or.i, (0 : Int)) :: (enc a ++ (enc b ++ []))) = xs at *
  clear hxs
  generalize xs.length = L at *
  have hb0 := below_alloc' w (.cells #[.int .i64 (ns.length : Int), .slice A0 ns.length c0, .slice A1 6 c1] 28)
  have HM := Lib.hid (hm.below hb0)
  have HB := Lib.hid hb0
  have hk0 := Blk.new w 28 #[.int .i64 (ns.length : Int), .slice A0 ns.length c0, .slice A1 6 c1]
  have d0 : (w.alloc (.cells #[.int .i64 (ns.length : Int), .slice A0 ns.length c0, .slice A1 6 c1] 28)).cell? ⟨w.heap.size, 0, none⟩ = some (.int .i64 (ns.length : Int)) := hk0.cell 0
  have d1 : (w.alloc (.cells #[.int .i64 (ns.length : Int), .slice A0 ns.length c0, .slice A1 6 c1] 28)).cell? ⟨w.heap.size, 1, none⟩ = some (.slice A0 ns.length c0) := hk0.cell 1
  have d2 : (w.alloc (.cells #[.int .i64 (ns.length : Int), .slice A0 ns.length c0, .slice A1 6 c1] 28)).cell? ⟨w.heap.size, 2, none⟩ = some (.slice A1 6 c1) := hk0.cell 2
  have hkl := hk0.lt
  have h8 := hr.1
  obtain ⟨F, hF⟩ : ∃ F : Nat, F = 2 ^ ns.length - 1 := ⟨_, rfl⟩
  have hF256 : F < 256 := by have := two_pow_256 h8; have := full_lt ns.length; omega
  have HF := Lib.hid (fun W => spec_l01Full' ns.length F hF W (by omega))
  have Hh := Lib.hid (h.below hb0)
  replace hc0 := (hb0.cell (p := ⟨bb, o, none⟩) hb).trans hc0
  have ha := Nat.lt_of_lt_of_le (tv_lt ns us hu a) (two_pow_256 h8)
  have hbq := Nat.lt_of_lt_of_le (tv_lt ns us hu b) (two_pow_256 h8)
  have HIA := Lib.hid iha; clear iha
  have HIB := Lib.hid ihb; clear ihb
  have E : Hid (tv ns us (.bin .or a b) = tv ns us a ||| tv ns us b) := Lib.hid rfl
  have e2 := i64_or_nat (tv ns us a) (tv ns us b) (by omega) (by omega)
  clear h hm hb0 hk0 hc1 hu hr hF
  generalize tv ns us a = q at *
  generalize tv ns us b = p at *
  go_enter Tryz.func44, Tryz.ntmps44
  go_wp2_with fail
  refine (HF.out _).mono ?_
  rintro e w1 ⟨rfl, rfl⟩
  go_wp2
  first | go_region_held3 (fun w' => w'.cell? ⟨w.heap.size, 0, none⟩ = some (.int .i64 (ns.length : Int)) ∧ w'.cell? ⟨w.heap.size, 1, none⟩ = some (.slice A0 ns.length c0) ∧ w'.cell? ⟨w.heap.size, 2, none⟩ = some (.slice A1 6 c1)) (first | exact ⟨d0'', d1'', d2''⟩ | exact ⟨d0', d1', d2'⟩ | exact ⟨d0, d1, d2⟩ | (simp [*]; done)) (first | (go_at_call 87; refine (HL.out _ (Hh.out.below (below_drewN (Below.refl _ _) 1))).mono ?_; rintro e w2 ⟨u1, rfl, hs1, rfl⟩) | (go_at_call 88; refine (HR.out _ (Hh.out.below hb3)).mono ?_; rintro e w3 ⟨u2, rfl, hs2, rfl⟩) | (go_at_call 44; (with_reducible refine (HIB.out u2 _ hs2 (HM.out.below hb3)).mono ?_); rintro e w4 ⟨rfl, hb4⟩; have hb5 := bthen hb3 hb4; have d0'' := (hb5.cell (p := ⟨w.heap.size, 0, none⟩) hkl).trans d0; have d1'' := (hb5.cell (p := ⟨w.heap.size, 1, none⟩) hkl).trans d1; have d2'' := (hb5.cell (p := ⟨w.heap.size, 2, none⟩) hkl).trans d2) | (go_at_call 44; (with_reducible refine (HIA.out u1 _ hs1 (HM.out.below (below_drewN (Below.refl _ _) 1))).mono ?_); rintro e w2 ⟨rfl, hb2⟩; have hb3 : Below (w.alloc (.cells #[.int .i64 (ns.length : Int), .slice A0 ns.length c0, .slice A1 6 c1] 28)).heap.size (w.alloc (.cells #[.int .i64 (ns.length : Int), .slice A0 ns.length c0, .slice A1 6 c1] 28)) w2 := (below_drewN (Below.refl _ _) 1).trans hb2; have d0' := (hb3.cell (p := ⟨w.heap.size, 0, none⟩) hkl).trans d0; have d1' := (hb3.cell (p := ⟨w.heap.size, 1, none⟩) hkl).trans d1; have d2' := (hb3.cell (p := ⟨w.heap.size, 2, none⟩) hkl).trans d2)) | fail
  all_goals
    have HB3 := Lib.hid (HB.out.trans (hb5.mono HB.out.size))
    clear d0' d1' d2' d0'' d1'' d2'' hb2 hb3 hb4 hb5
    go_wp2
    go_ret
    exact ⟨by rw [E.out]; rfl, HB3.out⟩
set_option maxRecDepth 100000 in
theorem spec_l06Truth_imp (a b : Fm) (ns us : List Nat) (A0 A1 : Option Addr) (c0 c1 : Nat) (hr : RelN ns) (hu6 : us.length = 6) (hu : ∀ x ∈ us, x < 2 ^ ns.length)
    (iha : ∀ (v : Value) (W : World), Sl cN W v (enc a) → Mdl W (.slice A0 ns.length c0) (.slice A1 6 c1) ns us → Calls Tryz.prog 44 #[.agg #[.int .i64 (ns.length : Int), .slice A0 ns.length c0, .slice A1 6 c1], v] W fun e w' => e = .returned (.int .i64 (tv ns us a : Nat)) ∧ Below W.heap.size W w')
    (ihb : ∀ (v : Value) (W : World), Sl cN W v (enc b) → Mdl W (.slice A0 ns.length c0) (.slice A1 6 c1) ns us → Calls Tryz.prog 44 #[.agg #[.int .i64 (ns.length : Int), .slice A0 ns.length c0, .slice A1 6 c1], v] W fun e w' => e = .returned (.int .i64 (tv ns us b : Nat)) ∧ Below W.heap.size W w')
    (v : Value) (w : World) (h : Sl cN w v (enc (.bin .imp a b))) (hl : (enc (.bin .imp a b)).length ≤ 1048576) (hm : Mdl w (.slice A0 ns.length c0) (.slice A1 6 c1) ns us) :
    Calls Tryz.prog 44 #[.agg #[.int .i64 (ns.length : Int), .slice A0 ns.length c0, .slice A1 6 c1], v] w fun e w' => e = .returned (.int .i64 (tv ns us (.bin .imp a b) : Nat)) ∧ Below w.heap.size w w' := by
  rw [enc_bin] at h hl
  have hleft := fun W (hW : Sl cN W v ((BK.imp.i, (0 : Int)) :: (enc a ++ (enc b ++ [])))) => spec_l02Left v _ a _ W hW hl
  have hright := fun W (hW : Sl cN W v ((BK.imp.i, (0 : Int)) :: (enc a ++ (enc b ++ [])))) => spec_l02Right v _ a b W (by simpa using hW) (by simpa using hl)
  have HL := Lib.hid hleft; clear hleft
  have HR := Lib.hid hright; clear hright
  obtain ⟨A, c, rfl⟩ := h.opn
  obtain ⟨bb, o, rfl, hb, hc0, hc1⟩ := h.atN0
  simp only [BK.i] at hc0
  have hL0 : 0 < ((BK.imp.i, (0 : Int)) :: (enc a ++ (enc b ++ []))).length := by simp
  generalize hxs : ((BK.imp.i, (0 : Int)) :: (enc a ++ (enc b ++ []))) = xs at *
  clear hxs
  generalize xs.length = L at *
  have hb0 := below_alloc' w (.cells #[.int .i64 (ns.length : Int), .slice A0 ns.length c0, .slice A1 6 c1] 28)
  have HM := Lib.hid (hm.below hb0)
  have HB := Lib.hid hb0
  have hk0 := Blk.new w 28 #[.int .i64 (ns.length : Int), .slice A0 ns.length c0, .slice A1 6 c1]
  have d0 : (w.alloc (.cells #[.int .i64 (ns.length : Int), .slice A0 ns.length c0, .slice A1 6 c1] 28)).cell? ⟨w.heap.size, 0, none⟩ = some (.int .i64 (ns.length : Int)) := hk0.cell 0
  have d1 : (w.alloc (.cells #[.int .i64 (ns.length : Int), .slice A0 ns.length c0, .slice A1 6 c1] 28)).cell? ⟨w.heap.size, 1, none⟩ = some (.slice A0 ns.length c0) := hk0.cell 1
  have d2 : (w.alloc (.cells #[.int .i64 (ns.length : Int), .slice A0 ns.length c0, .slice A1 6 c1] 28)).cell? ⟨w.heap.size, 2, none⟩ = some (.slice A1 6 c1) := hk0.cell 2
  have hkl := hk0.lt
  have h8 := hr.1
  obtain ⟨F, hF⟩ : ∃ F : Nat, F = 2 ^ ns.length - 1 := ⟨_, rfl⟩
  have hF256 : F < 256 := by have := two_pow_256 h8; have := full_lt ns.length; omega
  have HF := Lib.hid (fun W => spec_l01Full' ns.length F hF W (by omega))
  have Hh := Lib.hid (h.below hb0)
  replace hc0 := (hb0.cell (p := ⟨bb, o, none⟩) hb).trans hc0
  have ha := Nat.lt_of_lt_of_le (tv_lt ns us hu a) (two_pow_256 h8)
  have hbq := Nat.lt_of_lt_of_le (tv_lt ns us hu b) (two_pow_256 h8)
  have HIA := Lib.hid iha; clear iha
  have HIB := Lib.hid ihb; clear ihb
  have E : Hid (tv ns us (.bin .imp a b) = andnot F (tv ns us a) ||| tv ns us b) := Lib.hid (by rw [hF]; rfl)
  have e2 := i64_andNot_nat F (tv ns us a) (by omega) (by omega)
  have hq2 : andnot F (tv ns us a) < 256 := andnot_lt (k := 8) hF256
  have e3 := i64_or_nat (andnot F (tv ns us a)) (tv ns us b) (by omega) (by omega)
  clear h hm hb0 hk0 hc1 hu hr hF
  generalize tv ns us a = q at *
  generalize tv ns us b = p at *
  go_enter Tryz.func44, Tryz.ntmps44
  go_wp2_with fail
  refine (HF.out _).mono ?_
  rintro e w1 ⟨rfl, rfl⟩
  go_wp2
  first | go_region_held3 (fun w' => w'.cell? ⟨w.heap.size, 0, none⟩ = some (.int .i64 (ns.length : Int)) ∧ w'.cell? ⟨w.heap.size, 1, none⟩ = some (.slice A0 ns.length c0) ∧ w'.cell? ⟨w.heap.size, 2, none⟩ = some (.slice A1 6 c1)) (first | exact ⟨d0'', d1'', d2''⟩ | exact ⟨d0', d1', d2'⟩ | exact ⟨d0, d1, d2⟩ | (simp [*]; done)) (first | (go_at_call 87; refine (HL.out _ (Hh.out.below (below_drewN (Below.refl _ _) 1))).mono ?_; rintro e w2 ⟨u1, rfl, hs1, rfl⟩) | (go_at_call 88; refine (HR.out _ (Hh.out.below hb3)).mono ?_; rintro e w3 ⟨u2, rfl, hs2, rfl⟩) | (go_at_call 44; (with_reducible refine (HIB.out u2 _ hs2 (HM.out.below hb3)).mono ?_); rintro e w4 ⟨rfl, hb4⟩; have hb5 := bthen hb3 hb4; have d0'' := (hb5.cell (p := ⟨w.heap.size, 0, none⟩) hkl).trans d0; have d1'' := (hb5.cell (p := ⟨w.heap.size, 1, none⟩) hkl).trans d1; have d2'' := (hb5.cell (p := ⟨w.heap.size, 2, none⟩) hkl).trans d2) | (go_at_call 44; (with_reducible refine (HIA.out u1 _ hs1 (HM.out.below (below_drewN (Below.refl _ _) 1))).mono ?_); rintro e w2 ⟨rfl, hb2⟩; have hb3 : Below (w.alloc (.cells #[.int .i64 (ns.length : Int), .slice A0 ns.length c0, .slice A1 6 c1] 28)).heap.size (w.alloc (.cells #[.int .i64 (ns.length : Int), .slice A0 ns.length c0, .slice A1 6 c1] 28)) w2 := (below_drewN (Below.refl _ _) 1).trans hb2; have d0' := (hb3.cell (p := ⟨w.heap.size, 0, none⟩) hkl).trans d0; have d1' := (hb3.cell (p := ⟨w.heap.size, 1, none⟩) hkl).trans d1; have d2' := (hb3.cell (p := ⟨w.heap.size, 2, none⟩) hkl).trans d2)) | fail
  all_goals
    have HB3 := Lib.hid (HB.out.trans (hb5.mono HB.out.size))
    clear d0' d1' d2' d0'' d1'' d2'' hb2 hb3 hb4 hb5
    go_wp2
    go_ret
    exact ⟨by rw [E.out]; rfl, HB3.out⟩
theorem spec_l06Truth (ns us : List Nat) (A0 A1 : Option Addr) (c0 c1 : Nat) (hr : RelN ns) (hu6 : us.length = 6) (hu : ∀ x ∈ us, x < 2 ^ ns.length) (f : Fm) : ∀ (hok : f.ok = true) (hl : (enc f).length ≤ 1048576), ∀ (v : Value) (W : World), Sl cN W v (enc f) → Mdl W (.slice A0 ns.length c0) (.slice A1 6 c1) ns us → Calls Tryz.prog 44 #[.agg #[.int .i64 (ns.length : Int), .slice A0 ns.length c0, .slice A1 6 c1], v] W fun e w' => e = .returned (.int .i64 (tv ns us f : Nat)) ∧ Below W.heap.size W w' := by
  induction f with
  | var t => intro hok hl v w h hm; exact spec_l06Truth_var t (by simpa [Fm.ok] using hok) ns us A0 A1 c0 c1 hr hu6 hu v w h hl hm
  | fls => intro hok hl v w h hm; exact spec_l06Truth_fls ns us A0 A1 c0 c1 hr hu6 hu v w h hl hm
  | un k a ih =>
    intro hok hl v w h hm
    have hl2 : (enc a).length ≤ 1048576 := by simp [enc] at hl; omega
    have hok2 : a.ok = true := by simpa [Fm.ok] using hok
    cases k with
    | box => exact spec_l06Truth_box a ns us A0 A1 c0 c1 hr hu6 hu (ih hok2 hl2) v w h hl hm
    | dia => exact spec_l06Truth_dia a ns us A0 A1 c0 c1 hr hu6 hu (ih hok2 hl2) v w h hl hm
  | bin k a b iha ihb =>
    intro hok hl v w h hm
    simp only [Fm.ok, Bool.and_eq_true] at hok
    have hl2 : (enc a).length ≤ 1048576 := by simp [enc] at hl; omega
    have hl3 : (enc b).length ≤ 1048576 := by simp [enc] at hl; omega
    cases k with
    | and => exact spec_l06Truth_and a b ns us A0 A1 c0 c1 hr hu6 hu (iha hok.1 hl2) (ihb hok.2 hl3) v w h hl hm
    | or => exact spec_l06Truth_or a b ns us A0 A1 c0 c1 hr hu6 hu (iha hok.1 hl2) (ihb hok.2 hl3) v w h hl hm
    | imp => exact spec_l06Truth_imp a b ns us A0 A1 c0 c1 hr hu6 hu (iha hok.1 hl2) (ihb hok.2 hl3) v w h hl hm
end Go.Proofs.YtboldkahppdmbaaGreatDoor

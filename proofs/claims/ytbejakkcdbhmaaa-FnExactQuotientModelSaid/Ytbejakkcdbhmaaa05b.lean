/- Contracts of chapters 1, 5 and 6: models, boxes, of the program and of the reference. -/
import Derived.Test.Ytbejakkcdbhmaaa05a
namespace Go.Proofs.Ytbejakkcdbhmaaa
open Go.RowKit
set_option linter.unusedVariables false
set_option linter.unusedSimpArgs false
theorem impl_isModel_1 (x n : Int) (B : Nat) (w : World) (hc : w.cell? ⟨B, 0, none⟩ = some (.int .i64 n)) :
    Calls Try.prog 233 #[.int .i64 x, .pointer (some ⟨B, 0, none⟩)] w fun e w' => e = .returned (.bool (!mkOk n x)) ∧ Below w.heap.size w w' := by
  go_enter Try.func233, Try.ntmps233
  go_wp2_with fail
  refine (impl_isMask _ _ _).mono ?_
  rintro e w1 ⟨rfl, rfl⟩
  go_wp2
  go_ret
  exact ⟨rfl, Below.refl _ _⟩
theorem en_isModel_1 : ∀ (args : Array Value) (w : World), (callFunc 233 args).run Try.prog w = .ok (.enter 233 args) w := enters Try.func233 (by kernel_rfl) (by kernel_rfl)
def valBad (n : Int) (vs : List Int) (i : Nat) : Bool := !mkOk n (vs.getD i 0)
theorem valBad_all (n : Int) (vs : List Int) : (!(List.range vs.length).any (valBad n vs)) = vs.all fun m => mkOk n m := by
  have h := any_range vs 0 (fun m => !mkOk n m)
  rw [show (List.range vs.length).any (valBad n vs) = vs.any fun m => !mkOk n m from h, List.any_eq_not_all_not, Bool.not_not]
  congr 1
  funext g
  rw [Bool.not_not]
theorem impl_isModel (n : Int) (v u : Value) (xs vs : List Int) (w : World) (h : Sl cI w v xs) (h' : Sl cI w u vs) (hl : xs.length ≤ 1073741824) (hl' : vs.length ≤ 1073741824) :
    Calls Try.prog 136 #[.agg #[.int .i64 n, v, u]] w fun e w' => e = .returned (.bool (mdOk n xs vs)) ∧ Below w.heap.size w w' := by
  obtain ⟨A, c, rfl⟩ := h.opn
  obtain ⟨A', c', rfl⟩ := h'.opn
  have hb0 := below_alloc' w (.cells #[.int .i64 n, .slice A xs.length c, .slice A' vs.length c'] 77)
  have HF := Lib.hid (impl_isFrame n _ xs _ (h.below hb0) hl)
  have h0' := h'.below hb0
  have HB := Lib.hid hb0
  have hk0 := Blk.new w 77 #[.int .i64 n, .slice A xs.length c, .slice A' vs.length c']
  have HK := Lib.hid hk0
  have hkl := hk0.lt
  cases h1 : frOk n xs
  · have E : Hid (mdOk n xs vs = false) := Lib.hid (by unfold mdOk; rw [h1]; rfl)
    rw [h1] at HF
    clear h1 h h' hb0 h0' hk0
    go_enter Try.func136, Try.ntmps136
    go_wp2_with fail
    refine HF.out.mono ?_
    rintro e w1 ⟨rfl, hb⟩
    have HB1 := Lib.hid (HB.out.trans (hb.mono HB.out.size))
    clear hb
    go_wp2
    go_ret
    exact ⟨by rw [E.out]; rfl, HB1.out⟩
  · rw [h1] at HF
    by_cases h2 : vs.length = 6
    · have E : Hid (mdOk n xs vs = vs.all fun m => mkOk n m) := Lib.hid (by unfold mdOk; rw [h1, decide_eq_true h2]; rfl)
      have EA := Lib.hid (valBad_all n vs)
      have HC := Lib.hid (fun (W1 : World) (hb : Below (w.alloc (.cells #[.int .i64 n, .slice A xs.length c, .slice A' vs.length c'] 77)).heap.size (w.alloc (.cells #[.int .i64 n, .slice A xs.length c, .slice A' vs.length c'] 77)) W1) =>
        slices_ContainsFunc_ints _ vs 233 #[.pointer (some ⟨w.heap.size, 0, none⟩)] (valBad n vs) W1 (h0'.below hb) hl' en_isModel_1 (fun W hW i hi => by
          rw [show (#[Value.int .i64 vs[i]] ++ #[Value.pointer (some ⟨w.heap.size, 0, none⟩)] : Array Value) = #[.int .i64 vs[i], .pointer (some ⟨w.heap.size, 0, none⟩)] from rfl]
          have hk1 := HK.out.below hb hkl
          have := impl_isModel_1 vs[i] n w.heap.size W ((hW.cell (p := ⟨w.heap.size, 0, none⟩) hk1.lt).trans (hk1.cell 0))
          rwa [show valBad n vs i = !mkOk n vs[i] by unfold valBad; rw [List.getD_eq_getElem?_getD, List.getElem?_eq_getElem hi]; rfl]))
      have H2 := Lib.hid h2
      clear h1 h h' hb0 h0' hk0
      go_enter Try.func136, Try.ntmps136
      rw [H2.out] at HC HK HB HF hkl ⊢
      clear h2
      go_wp2_with fail
      refine HF.out.mono ?_
      rintro e w1 ⟨rfl, hb⟩
      have hk1 := HK.out.below hb hkl
      have k1 := hk1.cell
      have k2 := hk1.lt
      have HB0 := Lib.hid hb
      have HB1 := Lib.hid (HB.out.trans (hb.mono HB.out.size))
      clear hb hk1
      go_wp2_with fail
      refine (HC.out _ HB0.out).mono ?_
      rintro e w2 ⟨rfl, hb2⟩
      have HB2 := Lib.hid (bthen HB1.out hb2)
      rw [← H2.out]
      clear hb2 k1
      go_wp2
      go_ret
      exact ⟨by rw [E.out, ← EA.out]; rfl, HB2.out⟩
    · have E : Hid (mdOk n xs vs = false) := Lib.hid (by unfold mdOk; rw [decide_eq_false h2]; simp)
      have d2 : ((vs.length : Int) == 6) = false := beq_eq_false_iff_ne.2 (by omega)
      clear h1 h h' hb0 h0' hk0 h2
      go_enter Try.func136, Try.ntmps136
      go_wp2_with fail
      refine HF.out.mono ?_
      rintro e w1 ⟨rfl, hb⟩
      have hk1 := HK.out.below hb hkl
      have k1 := hk1.cell
      have k2 := hk1.lt
      have HB1 := Lib.hid (HB.out.trans (hb.mono HB.out.size))
      clear hb hk1
      go_wp2
      go_ret
      exact ⟨by rw [E.out]; rfl, HB1.out⟩
theorem impl_all (k : Nat) (v : Value) (A : Option Addr) (m c : Nat) (hv : v = .slice A m c) (w : World) (hk : k ≤ 8) :
    Calls Try.prog 96 #[.agg #[.int .i64 k, v]] w fun e w' => e = .returned (.int .i64 (2 ^ k - 1 : Nat)) ∧ Below w.heap.size w w' := by
  subst hv
  have e1 := wrap_two_pow (n := k) (by omega)
  have e2 := two_pow_le (n := k) (by omega)
  have e3 : (0 : Int) < 2 ^ k := Int.pow_pos (by decide)
  have HE : Hid (((2 ^ k - 1 : Nat) : Int) = 2 ^ k - 1) := Lib.hid (by rw [Int.ofNat_sub (Nat.pow_pos (by decide)), ← cast_two_pow]; rfl)
  have HB : Hid (Below w.heap.size w (w.alloc (.cells #[.int .i64 (k : Int), .slice A m c] 37))) := Lib.hid (below_alloc' _ _)
  go_enter Try.func96, Try.ntmps96
  go_wp2
  go_ret
  exact ⟨by rw [HE.out]; rfl, HB.out⟩
theorem impl_one (b : Bool) (w : World) :
    Calls Try.prog 97 #[.bool b] w fun e w' => e = .returned (.int .i64 (if b then 1 else 0)) ∧ w = w' := by
  cases b
  all_goals
    go_enter Try.func97, Try.ntmps97
    go_wp2
    go_ret
    exact ⟨rfl, rfl⟩
theorem msk_bound (p : Nat → Bool) {k n : Nat} (h : k ≤ n) (hn : n ≤ 8) : msk p k < 256 :=
  Nat.lt_of_lt_of_le (msk_lt p k) (Nat.le_trans (Nat.pow_le_pow_right (by decide) h) (two_pow_256 hn))
theorem impl_box (v : Value) (ns : List Nat) (m : Nat) (w : World) (h : Sl cI w v (li ns)) (hr : RelN ns) (hm : m < 256) :
    Calls Try.prog 246 #[v, .int .i64 m] w fun e w' => e = .returned (.int .i64 (bx ns m : Nat)) ∧ w = w' := by
  obtain ⟨A, c, rfl⟩ := h.opn
  have hlen := li_length ns
  have h8 := hr.1
  have h256 := fun i => Nat.lt_of_lt_of_le (getD_lt hr.2 i) (two_pow_256 h8)
  rw [hlen] at h ⊢
  go_enter Try.func246, Try.ntmps246
  have H256 := Lib.hid h256
  have HL := Lib.hid hlen
  clear h256 hlen hr
  go_wp2
  go_loop [5, 10] (fun t i => ∃ j : Nat, j ≤ ns.length ∧ i = .int .i64 j ∧ t = .int .i64 (msk (fun i => decide (andnot (ns.getD i 0) m = 0)) j : Nat)) (fun _ i => ns.length - (intOf i).toNat)
  case atStart => exact ⟨0, Nat.zero_le _, rfl, rfl⟩
  case round =>
    obtain ⟨j, hj, rfl, rfl⟩ := hrel
    by_cases hlt : j < ns.length
    · have hlt' : j < (li ns).length := by rw [HL.out]; exact hlt
      obtain ⟨b, o, rfl, hbl, hc0⟩ := h.atI hlt'
      rw [li_get] at hc0
      have hx := H256.out j
      have HS : Hid (msk (fun i => decide (andnot (ns.getD i 0) m = 0)) (j + 1) = msk (fun i => decide (andnot (ns.getD i 0) m = 0)) j ||| if decide (andnot (ns.getD j 0) m = 0) = true then 2 ^ j else 0) := Lib.hid rfl
      have hb1 := msk_bound (fun i => decide (andnot (ns.getD i 0) m = 0)) hj h8
      generalize msk (fun i => decide (andnot (ns.getD i 0) m = 0)) j = q at *
      generalize ns.getD j 0 = x at *
      go_wp2_with fail
      refine (impl_within x m _ (by omega) (by omega)).mono ?_
      rintro e w1 ⟨rfl, rfl⟩
      cases ht : decide (andnot x m = 0)
      · rw [ht, if_neg (by decide), Nat.or_zero] at HS
        clear ht
        go_wp2
        go_round
        case rel => exact ⟨j + 1, by omega, by go_num, by rw [HS.out]⟩
        case measure => simp [intOf]; omega
      · rw [ht, if_pos rfl] at HS
        have e1 := wrap_two_pow (n := j) (by omega)
        have e2 := i64_or_nat q (2 ^ j) (by omega) (two_pow_lt (by omega))
        rw [← cast_two_pow] at e2
        clear ht
        go_wp2
        go_round
        case rel => exact ⟨j + 1, by omega, by go_num, by rw [HS.out]⟩
        case measure => simp [intOf]; omega
    · obtain rfl : j = ns.length := by omega
      go_wp2
      go_ret
      exact ⟨rfl, rfl⟩
end Go.Proofs.Ytbejakkcdbhmaaa

/- Joined of several texts. -/
import Derived.Test.YtgkogfjifcfkoaaGreatY03
import Derived.StillTailTactics
import Derived.Test.YtgkogfjifcfkoaaGreatY02
import Derived.Deep.RegionWith
import Derived.Deep.CutRange
import Derived.Deep.DeepCutAuto
namespace Go.Proofs.YtgkogfjifcfkoaaGreat
/- Contracts of chapters 1 and 5: the transitive closure, of the program and of the reference; bits and images. -/
open Go.RowKit
set_option linter.unusedVariables false
set_option linter.unusedSimpArgs false
theorem spec_l01Bit (m i : Nat) (w : World) (hm : m < 9223372036854775808) (hi : i ≤ 63) :
    Calls Tryz.prog 103 #[.int .i64 m, .int .i64 i] w fun e w' => e = .returned (.bool (m.testBit i)) ∧ w = w' := by
  have E := Lib.hid (testBit_form m i hm)
  go_enter Tryz.func103, Tryz.ntmps103
  go_wp2
  go_ret
  exact ⟨by rw [← E.out]; rfl, rfl⟩
theorem spec_l01Image (v : Value) (ns : List Nat) (m : Nat) (w : World) (h : Sl cI w v (li ns)) (hr : RelN ns) (hm : m < 256) :
    Calls Tryz.prog 142 #[v, .int .i64 m] w fun e w' => e = .returned (.int .i64 (img ns m : Nat)) ∧ w = w' := by
  obtain ⟨A, c, rfl⟩ := h.opn
  have hlen := li_length ns
  have h8 := hr.1
  have HX := Lib.hid (fun i => Nat.lt_of_lt_of_le (getD_lt hr.2 i) (two_pow_256 h8))
  have HI := Lib.hid (fun i => Nat.lt_of_lt_of_le (imgTo_lt hr.2 m i) (two_pow_256 h8))
  have HL := Lib.hid hlen
  rw [hlen] at h ⊢
  clear hr hlen
  go_enter Tryz.func142, Tryz.ntmps142
  go_wp2
  go_loop [5, 6] (fun t i => ∃ j : Nat, j ≤ ns.length ∧ i = .int .i64 j ∧ t = .int .i64 (imgTo ns m j : Nat)) (fun _ i => ns.length - (intOf i).toNat)
  case atStart => exact ⟨0, Nat.zero_le _, rfl, rfl⟩
  case round =>
    obtain ⟨j, hj, rfl, rfl⟩ := hrel
    by_cases hlt : j < ns.length
    · have hlt' : j < (li ns).length := by rw [HL.out]; exact hlt
      obtain ⟨b, o, rfl, hbl, hc0⟩ := h.atI hlt'
      rw [li_get] at hc0
      have hx := HX.out j
      have hy := HI.out j
      have HS : Hid (imgTo ns m (j + 1) = imgTo ns m j ||| if m.testBit j then ns.getD j 0 else 0) := Lib.hid rfl
      generalize imgTo ns m j = y at *
      generalize ns.getD j 0 = x at *
      have e2 := i64_or_nat y x (by omega) (by omega)
      go_wp2_with fail
      refine (spec_l01Bit m j _ (by omega) (by omega)).mono ?_
      rintro e w1 ⟨rfl, rfl⟩
      cases ht : m.testBit j
      · rw [if_neg (by rw [ht]; decide), Nat.or_zero] at HS
        clear ht
        go_wp2
        go_round
        case rel => exact ⟨j + 1, by omega, by go_num, by rw [HS.out]⟩
        case measure => simp [intOf]; omega
      · rw [if_pos ht] at HS
        clear ht
        go_wp2
        go_round
        case rel => exact ⟨j + 1, by omega, by go_num, by rw [HS.out]⟩
        case measure => simp [intOf]; omega
    · obtain rfl : j = ns.length := by omega
      go_wp2
      go_ret
      exact ⟨rfl, rfl⟩
set_option maxRecDepth 100000 in
theorem spec_l01Closure (v : Value) (ns : List Nat) (w : World) (h : Sl cI w v (li ns)) (hr : RelN ns) :
    Calls Tryz.prog 168 #[v] w fun e w' => ∃ u, e = .returned u ∧ Ow cI 2 w.heap.size w' u (li (clo ns ns.length)) ∧ Below w.heap.size w w' := by
  have HN := Lib.hid hr
  have H0 := Lib.hid h
  have h8 := hr.1
  have EL := Lib.hid (li_length ns)
  clear h hr
  go_enter Tryz.func168, Tryz.ntmps168
  go_wp2_with fail
  refine (spec_l01Own v (li ns) _ H0.out (by rw [EL.out]; omega)).mono ?_
  rintro e w1 ⟨u, rfl, ho, hb⟩
  obtain ⟨A, c, rfl⟩ := ho.opn
  rw [EL.out] at ho ⊢
  have HO := Lib.hid ho
  have HB := Lib.hid hb
  clear ho hb H0 EL
  go_wp2
  go_loopw [4] (fun k wr => ∃ j : Nat, j ≤ ns.length ∧ k = .int .i64 j ∧ Ow cI 2 w.heap.size wr (.slice A ns.length c) (li (clo ns j)) ∧ Below w.heap.size w wr) (fun k _ => ns.length - (intOf k).toNat)
  case atStart => exact ⟨0, Nat.zero_le _, rfl, HO.out, HB.out⟩
  case round =>
    obtain ⟨k, hk, rfl, ho, hb⟩ := hrel
    have HOr := Lib.hid ho
    have HBr := Lib.hid hb
    clear ho hb HO HB
    by_cases hlt : k < ns.length
    · have HC : Hid (clo ns (k + 1) = cin (clo ns k) k ns.length) := Lib.hid rfl
      have HLT := Lib.hid (clo_lt HN.out.2 k)
      have HLE := Lib.hid (clo_length ns k)
      obtain ⟨o, ho⟩ : ∃ o, clo ns k = o := ⟨_, rfl⟩
      rw [ho] at HOr HC HLT HLE
      clear ho
      go_wp2
      go_loopw [5] (fun i wq => ∃ j : Nat, j ≤ ns.length ∧ i = .int .i64 j ∧ Ow cI 2 w.heap.size wq (.slice A ns.length c) (li (cin o k j)) ∧ Below w.heap.size w wq) (fun i _ => ns.length - (intOf i).toNat)
      case atStart => exact ⟨0, Nat.zero_le _, rfl, HOr.out, HBr.out⟩
      case round =>
        obtain ⟨i, hi, rfl, ho, hb⟩ := hrel
        have HC2 : Hid (cin o k (i + 1) = cst (cin o k i) k i) := Lib.hid rfl
        have HL2 := Lib.hid ((cin_length o k i).trans HLE.out)
        have HB2 := Lib.hid (cin_lt HLT.out k i)
        have HB1 := Lib.hid hb
        clear hb HBr HOr
        by_cases hlt2 : i < ns.length
        · obtain ⟨p, hp⟩ : ∃ p, cin o k i = p := ⟨_, rfl⟩
          rw [hp] at HC2 HL2 HB2 ho
          clear hp
          obtain ⟨g, c', hg, hg1, -, -, -⟩ := ho.form (by rw [li_length, HL2.out]; omega)
          injection hg with hA hn hc
          subst hA
          subst hc
          clear hn
          obtain ⟨ci, -, -, -⟩ := ho.at1 rfl (j := i) (by rw [li_length, HL2.out]; omega) rfl
          obtain ⟨ck, -, -, -⟩ := ho.at1 rfl (j := k) (by rw [li_length, HL2.out]; omega) rfl
          rw [li_get] at ci ck
          have hod := ho.below (Below.refl _ _).drew
          obtain ⟨ci4, fi, -, -⟩ := hod.at1 rfl (j := i) (by rw [li_length, HL2.out]; omega) rfl
          rw [li_get] at ci4
          have hset := Lib.hid ((hod.set1 (j := i) (x := ((p.getD i 0 ||| p.getD k 0 : Nat) : Int)) (u := .int .i64 (p.getD i 0 ||| p.getD k 0 : Nat)) rfl rfl (by rw [li_length, HL2.out]; omega)))
          rw [li_set] at hset
          have hbs := Lib.hid ((HB1.out.drew).setCell hg1 (p := ⟨g, i, none⟩) (.int .i64 (p.getD i 0 ||| p.getD k 0 : Nat)))
          have HP := Lib.hid ho
          have hx := Nat.lt_of_lt_of_le (getD_lt HB2.out i) (two_pow_256 h8)
          have hy := Nat.lt_of_lt_of_le (getD_lt HB2.out k) (two_pow_256 h8)
          have HE : Hid (cin o k (i + 1) = if (p.getD i 0).testBit k then p.set i (p.getD i 0 ||| p.getD k 0) else p) := Lib.hid HC2.out
          clear ho hod HC2
          generalize p.getD i 0 = x at *
          generalize p.getD k 0 = y at *
          go_wp2_with fail
          refine (spec_l01Bit x k _ (by omega) (by omega)).mono ?_
          rintro e w3 ⟨rfl, rfl⟩
          cases ht : x.testBit k
          · rw [if_neg (by rw [ht]; decide)] at HE
            clear ht hset hbs
            go_wp2
            go_roundw
            case rel => exact ⟨i + 1, by omega, by go_num, by rw [HE.out]; exact HP.out, HB1.out⟩
            case measure => simp [intOf]; omega
          · rw [if_pos ht] at HE
            have e2 := i64_or_nat x y (by omega) (by omega)
            clear ht
            go_wp2
            go_still_tail 12, (by kernel_rfl)
            change wpList _ _ _ _ _ (World.drew _)
            clear ci ck
            generalize World.drew _ = w4 at *
            go_wp2
            go_roundw
            case rel => exact ⟨i + 1, by omega, by go_num, by rw [HE.out]; exact hset.out, hbs.out⟩
            case measure => simp [intOf]; omega
        · obtain rfl : i = ns.length := by omega
          rw [← HC.out] at ho
          have HP := Lib.hid ho
          clear ho
          go_wp2
          go_roundw
          case rel => exact ⟨k + 1, by omega, by go_num, HP.out, HB1.out⟩
          case measure => simp [intOf]; omega
    · obtain rfl : k = ns.length := by omega
      go_wp2
      go_ret
      exact ⟨_, rfl, HOr.out, HBr.out⟩
/- Contracts of FixedPointTrace, of the program and of the reference. -/
open Go.RowKit
set_option linter.unusedVariables false
set_option linter.unusedSimpArgs false
theorem wrap_two_pow'' {n : Nat} (h : n ≤ 62) : IntKind.i64.wrap ((2 : Int) ^ n) = ((2 ^ n : Nat) : Int) := by
  have h1 := two_pow_le h
  have h2 : (0 : Int) < 2 ^ n := Int.pow_pos (by decide)
  rw [IntWalk.i64_in _ ⟨by omega, by omega⟩, cast_two_pow]
/- Contracts of chapter 5: flags of a frame, of the program. -/
open Go.RowKit
set_option linter.unusedVariables false
set_option linter.unusedSimpArgs false
theorem mems_mem {m n : Nat} (hm : m < 2 ^ n) {x : Int} (hx : x ∈ mems m) : ∃ i : Nat, x = i ∧ i < n := by
  unfold mems memsTo at hx
  rw [List.mem_map] at hx
  obtain ⟨i, hi, rfl⟩ := hx
  rw [List.mem_filter] at hi
  refine ⟨i, rfl, ?_⟩
  rcases Nat.lt_or_ge i n with h | h
  · exact h
  · have := Nat.testBit_lt_two_pow (Nat.lt_of_lt_of_le hm (Nat.pow_le_pow_right (by decide) h))
    rw [this] at hi
    exact absurd hi.2 (by decide)
theorem mems_length (m : Nat) : (mems m).length ≤ 64 := memsTo_length m 64
theorem slices_Equal_int64 (v u : Value) (xs ys : List Int) (w : World) (hx : Sl cI w v xs) (hy : Sl cI w u ys) (hl : xs.length ≤ 1073741824) (hl2 : ys.length = xs.length) :
    Calls Tryz.prog 137 #[v, u] w fun e w' => e = .returned (.bool (decide (xs = ys))) ∧ Below w.heap.size w w' := by
  obtain ⟨A, c, rfl⟩ := hx.opn
  obtain ⟨B, d, rfl⟩ := hy.opn
  rw [hl2] at hy ⊢
  have HL := Lib.hid hl2
  go_enter Tryz.func137, Tryz.ntmps137
  go_wp2
  go_loopw [13] (fun i wr => ∃ j : Nat, j ≤ xs.length ∧ i = .int .i64 j ∧ (∀ k (h1 : k < xs.length) (h2 : k < ys.length), k < j → xs[k] = ys[k]) ∧ Below w.heap.size w wr) (fun i _ => xs.length - (intOf i).toNat)
  case atStart => exact ⟨0, Nat.zero_le _, rfl, fun k _ _ h => by omega, Below.refl _ _⟩
  case round =>
    obtain ⟨j, hj, rfl, hh, hb⟩ := hrel
    have Hh := Lib.hid hh; clear hh
    have HB := Lib.hid hb
    by_cases hlt : j < xs.length
    · have hlt2 : j < ys.length := by rw [HL.out]; exact hlt
      obtain ⟨b, o, rfl, hbl, hc0⟩ := (hx.below hb).atI hlt
      obtain ⟨b2, o2, rfl, hbl2, hd0⟩ := (hy.below hb).atI hlt2
      by_cases he : xs[j] = ys[j]
      · have HS : Hid (∀ k (h1 : k < xs.length) (h2 : k < ys.length), k < j + 1 → xs[k] = ys[k]) := Lib.hid fun k h1 h2 h3 => by
          rcases Nat.lt_or_ge k j with h | h
          · exact Hh.out k h1 h2 h
          · obtain rfl : k = j := by omega
            exact he
        have hd : (xs[j] != ys[j]) = false := by rw [he]; simp
        generalize xs[j] = x at *
        generalize ys[j] = y at *
        clear hb
        go_wp2
        go_quiet (fail)
        go_wp2
        go_roundw
        case rel => exact ⟨j + 1, by omega, by go_num, HS.out, below_drewN HB.out _⟩
        case measure => simp [intOf]; omega
      · have HE : Hid (decide (xs = ys) = false) := Lib.hid (decide_eq_false fun h => he (by subst h; rfl))
        have hd : (xs[j] != ys[j]) = true := bne_iff_ne.2 he
        generalize xs[j] = x at *
        generalize ys[j] = y at *
        clear hb
        go_wp2
        go_quiet (fail)
        go_wp2
        go_ret
        exact ⟨by rw [HE.out]; rfl, below_drewN HB.out _⟩
    · have HE : Hid (decide (xs = ys) = true) := Lib.hid (decide_eq_true (List.ext_getElem HL.out.symm fun k h1 h2 => Hh.out k h1 h2 (by omega)))
      clear hb
      go_wp2
      go_ret
      exact ⟨by rw [HE.out]; rfl, HB.out⟩
/- Joined of several texts: 05h, 05g. -/
open Go.RowKit
set_option linter.unusedVariables false
set_option linter.unusedSimpArgs false
/- Contracts of chapter 5: two flags of a frame, of the reference. -/
/- Contracts of chapter 5: two flags of a frame, of the program. -/
theorem li_eq_iff (a b : List Nat) : decide (li a = li b) = decide (a = b) := by
  have : li a = li b ↔ a = b := by
    unfold li
    constructor
    · intro h
      exact (List.map_inj_right (fun x y h => Int.ofNat.inj h)).1 h
    · intro h; rw [h]
  rw [Bool.eq_iff_iff, decide_eq_true_eq, decide_eq_true_eq, this]
end Go.Proofs.YtgkogfjifcfkoaaGreat

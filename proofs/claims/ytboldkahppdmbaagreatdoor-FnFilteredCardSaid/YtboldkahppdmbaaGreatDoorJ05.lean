/- Joined of several texts: 05e, 33u, 05f, FD. -/
import Derived.Test.YtboldkahppdmbaaGreatDoorFC
import Derived.Test.YtboldkahppdmbaaGreatDoorB7
import Derived.StillTailTactics
import Derived.Deep.RegionWith
import Derived.Deep.CutRange
import Derived.Deep.DeepCutAuto
namespace Go.Proofs.YtboldkahppdmbaaGreatDoor
open Go.RowKit
set_option linter.unusedVariables false
set_option linter.unusedSimpArgs false
/- Contracts of chapters 1 and 5: the transitive closure, of the program and of the reference; bits and images. -/
theorem spec_l01Bit (m i : Nat) (w : World) (hm : m < 9223372036854775808) (hi : i ≤ 63) :
    Calls Tryz.prog 32 #[.int .i64 m, .int .i64 i] w fun e w' => e = .returned (.bool (m.testBit i)) ∧ w = w' := by
  have E := Lib.hid (testBit_form m i hm)
  go_enter Tryz.func32, Tryz.ntmps32
  go_wp2
  go_ret
  exact ⟨by rw [← E.out]; rfl, rfl⟩
set_option maxRecDepth 100000 in
theorem spec_l01Closure (v : Value) (ns : List Nat) (w : World) (h : Sl cI w v (li ns)) (hr : RelN ns) :
    Calls Tryz.prog 90 #[v] w fun e w' => ∃ u, e = .returned u ∧ Ow cI 2 w.heap.size w' u (li (clo ns ns.length)) ∧ Below w.heap.size w w' := by
  have HN := Lib.hid hr
  have H0 := Lib.hid h
  have h8 := hr.1
  have EL := Lib.hid (li_length ns)
  clear h hr
  go_enter Tryz.func90, Tryz.ntmps90
  go_wp2_with fail
  refine (spec_l01Own v (li ns) _ H0.out (by rw [EL.out]; omega)).mono ?_
  rintro e w1 ⟨u, rfl, ho, hb⟩
  obtain ⟨A, c, rfl⟩ := ho.opn
  rw [EL.out] at ho ⊢
  have HO := Lib.hid ho
  have HB := Lib.hid hb
  clear ho hb H0 EL
  go_wp2
  go_loopw [4] (fun k wr => ∃ j : Nat, j ≤ ns.length ∧ k = .int .i64 j ∧ Ow cI 2 w.heap.size wr (.slice A ns.length c) (li (clo ns j)) ∧ Below w.heap.size w wr) (fun k _ => ns.length - (intOf k).toNat)
  case atStart => exact ⟨0, Nat.zero_le _, rfl, HO.out, HB.out⟩
  case round =>
    obtain ⟨k, hk, rfl, ho, hb⟩ := hrel
    have HOr := Lib.hid ho
    have HBr := Lib.hid hb
    clear ho hb HO HB
    by_cases hlt : k < ns.length
    · have HC : Hid (clo ns (k + 1) = cin (clo ns k) k ns.length) := Lib.hid rfl
      have HLT := Lib.hid (clo_lt HN.out.2 k)
      have HLE := Lib.hid (clo_length ns k)
      obtain ⟨o, ho⟩ : ∃ o, clo ns k = o := ⟨_, rfl⟩
      rw [ho] at HOr HC HLT HLE
      clear ho
      go_wp2
      go_loopw [5] (fun i wq => ∃ j : Nat, j ≤ ns.length ∧ i = .int .i64 j ∧ Ow cI 2 w.heap.size wq (.slice A ns.length c) (li (cin o k j)) ∧ Below w.heap.size w wq) (fun i _ => ns.length - (intOf i).toNat)
      case atStart => exact ⟨0, Nat.zero_le _, rfl, HOr.out, HBr.out⟩
      case round =>
        obtain ⟨i, hi, rfl, ho, hb⟩ := hrel
        have HC2 : Hid (cin o k (i + 1) = cst (cin o k i) k i) := Lib.hid rfl
        have HL2 := Lib.hid ((cin_length o k i).trans HLE.out)
        have HB2 := Lib.hid (cin_lt HLT.out k i)
        have HB1 := Lib.hid hb
        clear hb HBr HOr
        by_cases hlt2 : i < ns.length
        · obtain ⟨p, hp⟩ : ∃ p, cin o k i = p := ⟨_, rfl⟩
          rw [hp] at HC2 HL2 HB2 ho
          clear hp
          obtain ⟨g, c', hg, hg1, -, -, -⟩ := ho.form (by rw [li_length, HL2.out]; omega)
          injection hg with hA hn hc
          subst hA
          subst hc
          clear hn
          obtain ⟨ci, -, -, -⟩ := ho.at1 rfl (j := i) (by rw [li_length, HL2.out]; omega) rfl
          obtain ⟨ck, -, -, -⟩ := ho.at1 rfl (j := k) (by rw [li_length, HL2.out]; omega) rfl
          rw [li_get] at ci ck
          have hod := ho.below (Below.refl _ _).drew
          obtain ⟨ci4, fi, -, -⟩ := hod.at1 rfl (j := i) (by rw [li_length, HL2.out]; omega) rfl
          rw [li_get] at ci4
          have hset := Lib.hid ((hod.set1 (j := i) (x := ((p.getD i 0 ||| p.getD k 0 : Nat) : Int)) (u := .int .i64 (p.getD i 0 ||| p.getD k 0 : Nat)) rfl rfl (by rw [li_length, HL2.out]; omega)))
          rw [li_set] at hset
          have hbs := Lib.hid ((HB1.out.drew).setCell hg1 (p := ⟨g, i, none⟩) (.int .i64 (p.getD i 0 ||| p.getD k 0 : Nat)))
          have HP := Lib.hid ho
          have hx := Nat.lt_of_lt_of_le (getD_lt HB2.out i) (two_pow_256 h8)
          have hy := Nat.lt_of_lt_of_le (getD_lt HB2.out k) (two_pow_256 h8)
          have HE : Hid (cin o k (i + 1) = if (p.getD i 0).testBit k then p.set i (p.getD i 0 ||| p.getD k 0) else p) := Lib.hid HC2.out
          clear ho hod HC2
          generalize p.getD i 0 = x at *
          generalize p.getD k 0 = y at *
          go_wp2_with fail
          refine (spec_l01Bit x k _ (by omega) (by omega)).mono ?_
          rintro e w3 ⟨rfl, rfl⟩
          cases ht : x.testBit k
          · rw [if_neg (by rw [ht]; decide)] at HE
            clear ht hset hbs
            go_wp2
            go_roundw
            case rel => exact ⟨i + 1, by omega, by go_num, by rw [HE.out]; exact HP.out, HB1.out⟩
            case measure => simp [intOf]; omega
          · rw [if_pos ht] at HE
            have e2 := i64_or_nat x y (by omega) (by omega)
            clear ht
            go_wp2
            go_still_tail 12, (by kernel_rfl)
            change wpList _ _ _ _ _ (World.drew _)
            clear ci ck
            generalize World.drew _ = w4 at *
            go_wp2
            go_roundw
            case rel => exact ⟨i + 1, by omega, by go_num, by rw [HE.out]; exact hset.out, hbs.out⟩
            case measure => simp [intOf]; omega
        · obtain rfl : i = ns.length := by omega
          rw [← HC.out] at ho
          have HP := Lib.hid ho
          clear ho
          go_wp2
          go_roundw
          case rel => exact ⟨k + 1, by omega, by go_num, HP.out, HB1.out⟩
          case measure => simp [intOf]; omega
    · obtain rfl : k = ns.length := by omega
      go_wp2
      go_ret
      exact ⟨_, rfl, HOr.out, HBr.out⟩
/- Contracts of FixedPointTrace, of the program and of the reference. -/
/-- a variable is guarded, and there is no other one -/
def lone (f : Fm) (s : Nat) : Bool := gd f s && only (enc f) s
theorem wrap_two_pow'' {n : Nat} (h : n ≤ 62) : IntKind.i64.wrap ((2 : Int) ^ n) = ((2 ^ n : Nat) : Int) := by
  have h1 := two_pow_le h
  have h2 : (0 : Int) < 2 ^ n := Int.pow_pos (by decide)
  rw [IntWalk.i64_in _ ⟨by omega, by omega⟩, cast_two_pow]
/- Contracts of chapter 5: flags of a frame, of the program. -/
theorem mems_mem {m n : Nat} (hm : m < 2 ^ n) {x : Int} (hx : x ∈ mems m) : ∃ i : Nat, x = i ∧ i < n := by
  unfold mems memsTo at hx
  rw [List.mem_map] at hx
  obtain ⟨i, hi, rfl⟩ := hx
  rw [List.mem_filter] at hi
  refine ⟨i, rfl, ?_⟩
  rcases Nat.lt_or_ge i n with h | h
  · exact h
  · have := Nat.testBit_lt_two_pow (Nat.lt_of_lt_of_le hm (Nat.pow_le_pow_right (by decide) h))
    rw [this] at hi
    exact absurd hi.2 (by decide)
theorem mems_length (m : Nat) : (mems m).length ≤ 64 := memsTo_length m 64
theorem impl_everyWorld (n : Nat) (v : Value) (A : Option Addr) (m c : Nat) (hv : v = .slice A m c) (k : FuncId) (cap : Array Value) (p : Nat → Bool) (w : World) (hn : n ≤ 8)
    (hk : ∀ (args : Array Value) (w : World), (callFunc k args).run Tryz.prog w = .ok (.enter k args) w)
    (hf : ∀ w', Below w.heap.size w w' → ∀ (i : Nat), i < n → Calls Tryz.prog k (#[.int .i64 i] ++ cap) w' fun e w'' => e = .returned (.bool (p i)) ∧ Below w'.heap.size w' w'') :
    Calls Tryz.prog 63 #[.agg #[.int .i64 n, v], .func (.func k) #[] cap] w fun e w' => e = .returned (.bool ((List.range n).all p)) ∧ Below w.heap.size w w' := by
  subst hv
  have hb0 := below_alloc' w (.cells #[.int .i64 n, .slice A m c] 26)
  have hk0 := Blk.new w 26 #[.int .i64 n, .slice A m c]
  have hkl := hk0.lt
  have HK := Lib.hid hk0
  have HB := Lib.hid hb0
  have HF := Lib.hid hf
  clear hf hb0 hk0
  go_enter Tryz.func63, Tryz.ntmps63
  go_wp2
  go_loopw [8] (fun i wr => ∃ j : Nat, j ≤ n ∧ i = .int .i64 j ∧ (∀ i < j, p i = true) ∧ Below w.heap.size w wr) (fun i _ => n - (intOf i).toNat)
  case atStart => exact ⟨0, Nat.zero_le _, rfl, fun i hi => by omega, HB.out⟩
  case round =>
    obtain ⟨j, hj, rfl, hh, hb⟩ := hrel
    have Hh := Lib.hid hh; clear hh
    by_cases hlt : j < n
    · go_wp2_with fail
      refine (HF.out wr hb j hlt).mono ?_
      rintro e w1 ⟨rfl, hb1⟩
      have HB1 : Hid (Below w.heap.size w w1) := Lib.hid (hb.trans (hb1.mono hb.size))
      clear hb1 hb
      by_cases hp : p j = true
      · rw [hp]
        have HP := Lib.hid hp; clear hp
        go_wp2
        go_roundw
        case rel => exact ⟨j + 1, by omega, by go_num, fun i hi => (Nat.lt_or_ge i j).elim (fun h => Hh.out i h) (fun h => (show i = j by omega) ▸ HP.out), HB1.out⟩
        case measure => simp [intOf]; omega
      · have HE : Hid ((List.range n).all p = false) := Lib.hid (by rw [← Bool.not_eq_true, List.all_eq_true]; exact fun h => hp (h j (List.mem_range.2 hlt)))
        rw [Bool.not_eq_true] at hp
        rw [hp]
        have HP := Lib.hid hp; clear hp
        go_wp2
        go_ret
        exact ⟨by rw [HE.out]; rfl, HB1.out⟩
    · have HE : Hid ((List.range n).all p = true) := Lib.hid (by rw [List.all_eq_true]; exact fun i hi => Hh.out i (by rw [List.mem_range] at hi; omega))
      have HB1 := Lib.hid hb; clear hb
      go_wp2
      go_ret
      exact ⟨by rw [HE.out]; rfl, HB1.out⟩
/- Joined of several texts: 05h, 05g. -/
/- Contracts of chapter 5: two flags of a frame, of the program. -/
theorem li_eq_iff (a b : List Nat) : decide (li a = li b) = decide (a = b) := by
  have : li a = li b ↔ a = b := by
    unfold li
    constructor
    · intro h
      exact (List.map_inj_right (fun x y h => Int.ofNat.inj h)).1 h
    · intro h; rw [h]
  rw [Bool.eq_iff_iff, decide_eq_true_eq, decide_eq_true_eq, this]
end Go.Proofs.YtboldkahppdmbaaGreatDoor

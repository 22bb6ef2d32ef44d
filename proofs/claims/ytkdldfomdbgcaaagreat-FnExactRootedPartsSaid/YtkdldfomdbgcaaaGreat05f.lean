/- Contracts of chapter 5: flags of a frame, of the program. -/
import Derived.Test.YtkdldfomdbgcaaaGreat05e
import Derived.Test.YtkdldfomdbgcaaaGreat33u
import Derived.StillTailTactics
namespace Go.Proofs.YtkdldfomdbgcaaaGreat
open Go.RowKit
set_option linter.unusedVariables false
set_option linter.unusedSimpArgs false
theorem mems_mem {m n : Nat} (hm : m < 2 ^ n) {x : Int} (hx : x ∈ mems m) : ∃ i : Nat, x = i ∧ i < n := by
  unfold mems memsTo at hx
  rw [List.mem_map] at hx
  obtain ⟨i, hi, rfl⟩ := hx
  rw [List.mem_filter] at hi
  refine ⟨i, rfl, ?_⟩
  rcases Nat.lt_or_ge i n with h | h
  · exact h
  · have := Nat.testBit_lt_two_pow (Nat.lt_of_lt_of_le hm (Nat.pow_le_pow_right (by decide) h))
    rw [this] at hi
    exact absurd hi.2 (by decide)
theorem mems_length (m : Nat) : (mems m).length ≤ 64 := memsTo_length m 64
set_option maxRecDepth 100000 in
theorem impl_inverse (v : Value) (ns : List Nat) (w : World) (h : Sl cI w v (li ns)) (hr : RelN ns) :
    Calls Tryz.prog 146 #[v] w fun e w' => ∃ A m c, e = .returned (.slice A m c) ∧ Below w.heap.size w w' := by
  obtain ⟨A, c, rfl⟩ := h.opn
  have HN := Lib.hid hr
  have h8 := hr.1
  have EL := Lib.hid (li_length ns)
  rw [EL.out] at h ⊢
  have H0 := Lib.hid h
  clear h hr
  go_enter Tryz.func146, Tryz.ntmps146
  go_wp2_with (at_make; refine stopHere ?_)
  refine goHere ?_
  refine mk_full (K := cI) w ty_int64 rfl _ _ rfl w.heap.size ns.length 0 rfl rfl rfl (by omega) (Nat.le_refl _) ?_
  intro w1 ho hg hb hz
  have EZ : List.replicate ns.length (0 : Int) = li (List.replicate ns.length 0) := by unfold li; rw [List.map_replicate]; rfl
  rw [EZ] at ho
  have HO := Lib.hid ho
  have HB := Lib.hid hb
  clear ho hb hg hz EZ
  go_wp2
  go_loopw [13] (fun k wr => ∃ j : Nat, j ≤ ns.length ∧ k = .int .i64 j ∧ (∃ os : List Nat, os.length = ns.length ∧ (∀ x ∈ os, x < 2 ^ ns.length) ∧ Ow cI 2 w.heap.size wr (.slice (some ⟨w.heap.size, 0, none⟩) ns.length ns.length) (li os)) ∧ Below w.heap.size w wr) (fun k _ => ns.length - (intOf k).toNat)
  case atStart => exact ⟨0, Nat.zero_le _, rfl, ⟨_, by simp, fun x hx => by rw [List.mem_replicate] at hx; rw [hx.2]; exact Nat.pow_pos (by decide), HO.out⟩, HB.out⟩
  case round =>
    obtain ⟨k, hk, rfl, ⟨os, hol, hlt, ho⟩, hb⟩ := hrel
    by_cases hkl : k < ns.length
    · have hk' : k < (li ns).length := by rw [EL.out]; exact hkl
      obtain ⟨b, o, rfl, hbl, hc0⟩ := (H0.out.below hb).atI hk'
      rw [li_get] at hc0
      have HX := Lib.hid (getD_lt HN.out.2 k)
      have hx := Nat.lt_of_lt_of_le HX.out (two_pow_256 h8)
      have HOr := Lib.hid ho
      have HBr := Lib.hid hb
      have HL := Lib.hid hol
      have HT := Lib.hid hlt
      generalize ns.getD k 0 = m at *
      clear ho hb hol hlt HO HB
      go_wp2_with fail
      refine (impl_membersOf m _ (by omega)).mono ?_
      rintro e w3 ⟨vm, rfl, hom, hbm⟩
      obtain ⟨A2, c2, rfl⟩ := hom.opn
      have hsz1 : w.heap.size + 1 ≤ _ := (HOr.out.at1 rfl (j := k) (by rw [li_length, HL.out]; omega) rfl).2.2.2
      have HM := Lib.hid (hom.mono hsz1)
      clear hsz1
      have HB3 := Lib.hid (bthen HBr.out hbm)
      have HO3 := Lib.hid (HOr.out.below hbm)
      have hml := mems_length m
      clear hom hbm hc0
      generalize hmm : mems m = ms at *
      have HMM := Lib.hid hmm
      clear hmm
      go_wp2
      go_loopw [21] (fun i wq => ∃ j : Nat, j ≤ ms.length ∧ i = .int .i64 j ∧ Ow cI 2 (w.heap.size + 1) wq (.slice A2 ms.length c2) ms ∧ (∃ os : List Nat, os.length = ns.length ∧ (∀ x ∈ os, x < 2 ^ ns.length) ∧ Ow cI 2 w.heap.size wq (.slice (some ⟨w.heap.size, 0, none⟩) ns.length ns.length) (li os)) ∧ Below w.heap.size w wq) (fun i _ => ms.length - (intOf i).toNat)
      case atStart => exact ⟨0, Nat.zero_le _, rfl, HM.out, ⟨os, HL.out, HT.out, HO3.out⟩, HB3.out⟩
      case round =>
        obtain ⟨i, hi, rfl, hs, ⟨ps, hpl, hpt, hp⟩, hb⟩ := hrel
        clear HM HO3 HB3
        by_cases hil : i < ms.length
        · obtain ⟨b2, o2, rfl, hbl2, hd0⟩ := hs.sl.atI hil
          obtain ⟨x, hxx, hxn⟩ := mems_mem (n := ns.length) HX.out (x := ms[i]) (by rw [HMM.out]; exact List.getElem_mem hil)
          rw [hxx] at hd0
          clear hxx
          obtain ⟨cj, -, -, -⟩ := hp.at1 rfl (j := x) (by rw [li_length, hpl]; omega) rfl
          have hod := hp.below (Below.refl _ _).drew
          obtain ⟨cj4, fj, -, -⟩ := hod.at1 rfl (j := x) (by rw [li_length, hpl]; omega) rfl
          rw [li_get] at cj cj4
          have hset := Lib.hid ((hod.set1 (j := x) (x := ((ps.getD x 0 ||| 2 ^ k : Nat) : Int)) (u := .int .i64 (ps.getD x 0 ||| 2 ^ k : Nat)) rfl rfl (by rw [li_length, hpl]; omega)))
          rw [li_set] at hset
          have hsl := hs.below ((Below.refl wr.heap.size wr).drew)
          have hne : w.heap.size ≤ w.heap.size := Nat.le_refl _
          have hbs := Lib.hid ((hb.drew).setCell (p := ⟨w.heap.size, x, none⟩) hne (.int .i64 (ps.getD x 0 ||| 2 ^ k : Nat)))
          have HSS := Lib.hid (hsl.setBelow (p := ⟨w.heap.size, x, none⟩) (by show w.heap.size < w.heap.size + 1; omega) (.int .i64 (ps.getD x 0 ||| 2 ^ k : Nat)))
          have HPT := Lib.hid (set_lt hpt x (ps.getD x 0 ||| 2 ^ k) (Nat.or_lt_two_pow (getD_lt hpt x) (Nat.pow_lt_pow_right (by decide) hkl)))
          have HPL : Hid ((ps.set x (ps.getD x 0 ||| 2 ^ k)).length = ns.length) := Lib.hid (by rw [List.length_set, hpl])
          have hy := Nat.lt_of_lt_of_le (getD_lt hpt x) (two_pow_256 h8)
          clear hp hod hs hsl hpt hb hpl
          generalize ps.getD x 0 = y at *
          have e2 := i64_or_nat y (2 ^ k) (by omega) (two_pow_lt (by omega))
          have e3 := wrap_two_pow'' (n := k) (by omega)
          rw [← cast_two_pow] at e2
          go_wp2
          go_still_tail 8, (by kernel_rfl)
          change wpList _ _ _ _ _ (World.drew _)
          clear cj hd0 hbl2
          generalize World.drew _ = w4 at *
          go_wp2
          go_roundw
          case rel => exact ⟨i + 1, by omega, by go_num, HSS.out, ⟨_, HPL.out, HPT.out, hset.out⟩, hbs.out⟩
          case measure => simp [intOf]; omega
        · obtain rfl : i = ms.length := by omega
          have HPP : Hid (∃ os : List Nat, os.length = ns.length ∧ (∀ x ∈ os, x < 2 ^ ns.length) ∧ Ow cI 2 w.heap.size wr (.slice (some ⟨w.heap.size, 0, none⟩) ns.length ns.length) (li os)) := Lib.hid ⟨ps, hpl, hpt, hp⟩
          have HBB := Lib.hid hb
          clear hp hb hs hpt
          go_wp2
          go_roundw
          case rel => exact ⟨k + 1, by omega, by go_num, HPP.out, HBB.out⟩
          case measure => simp [intOf]; omega
    · obtain rfl : k = ns.length := by omega
      go_wp2
      go_ret
      exact ⟨_, _, _, rfl, hb⟩
theorem slices_Equal_int64 (v u : Value) (xs ys : List Int) (w : World) (hx : Sl cI w v xs) (hy : Sl cI w u ys) (hl : xs.length ≤ 1073741824) (hl2 : ys.length = xs.length) :
    Calls Tryz.prog 151 #[v, u] w fun e w' => e = .returned (.bool (decide (xs = ys))) ∧ Below w.heap.size w w' := by
  obtain ⟨A, c, rfl⟩ := hx.opn
  obtain ⟨B, d, rfl⟩ := hy.opn
  rw [hl2] at hy ⊢
  have HL := Lib.hid hl2
  go_enter Tryz.func151, Tryz.ntmps151
  go_wp2
  go_loopw [13] (fun i wr => ∃ j : Nat, j ≤ xs.length ∧ i = .int .i64 j ∧ (∀ k (h1 : k < xs.length) (h2 : k < ys.length), k < j → xs[k] = ys[k]) ∧ Below w.heap.size w wr) (fun i _ => xs.length - (intOf i).toNat)
  case atStart => exact ⟨0, Nat.zero_le _, rfl, fun k _ _ h => by omega, Below.refl _ _⟩
  case round =>
    obtain ⟨j, hj, rfl, hh, hb⟩ := hrel
    have Hh := Lib.hid hh; clear hh
    have HB := Lib.hid hb
    by_cases hlt : j < xs.length
    · have hlt2 : j < ys.length := by rw [HL.out]; exact hlt
      obtain ⟨b, o, rfl, hbl, hc0⟩ := (hx.below hb).atI hlt
      obtain ⟨b2, o2, rfl, hbl2, hd0⟩ := (hy.below hb).atI hlt2
      by_cases he : xs[j] = ys[j]
      · have HS : Hid (∀ k (h1 : k < xs.length) (h2 : k < ys.length), k < j + 1 → xs[k] = ys[k]) := Lib.hid fun k h1 h2 h3 => by
          rcases Nat.lt_or_ge k j with h | h
          · exact Hh.out k h1 h2 h
          · obtain rfl : k = j := by omega
            exact he
        have hd : (xs[j] != ys[j]) = false := by rw [he]; simp
        generalize xs[j] = x at *
        generalize ys[j] = y at *
        clear hb
        go_wp2
        go_quiet (fail)
        go_wp2
        go_roundw
        case rel => exact ⟨j + 1, by omega, by go_num, HS.out, below_drewN HB.out _⟩
        case measure => simp [intOf]; omega
      · have HE : Hid (decide (xs = ys) = false) := Lib.hid (decide_eq_false fun h => he (by subst h; rfl))
        have hd : (xs[j] != ys[j]) = true := bne_iff_ne.2 he
        generalize xs[j] = x at *
        generalize ys[j] = y at *
        clear hb
        go_wp2
        go_quiet (fail)
        go_wp2
        go_ret
        exact ⟨by rw [HE.out]; rfl, below_drewN HB.out _⟩
    · have HE : Hid (decide (xs = ys) = true) := Lib.hid (decide_eq_true (List.ext_getElem HL.out.symm fun k h1 h2 => Hh.out k h1 h2 (by omega)))
      clear hb
      go_wp2
      go_ret
      exact ⟨by rw [HE.out]; rfl, HB.out⟩
theorem impl_everyWorld (n : Nat) (v : Value) (A : Option Addr) (m c : Nat) (hv : v = .slice A m c) (k : FuncId) (cap : Array Value) (p : Nat → Bool) (w : World) (hn : n ≤ 8)
    (hk : ∀ (args : Array Value) (w : World), (callFunc k args).run Tryz.prog w = .ok (.enter k args) w)
    (hf : ∀ w', Below w.heap.size w w' → ∀ (i : Nat), i < n → Calls Tryz.prog k (#[.int .i64 i] ++ cap) w' fun e w'' => e = .returned (.bool (p i)) ∧ Below w'.heap.size w' w'') :
    Calls Tryz.prog 147 #[.agg #[.int .i64 n, v], .func (.func k) #[] cap] w fun e w' => e = .returned (.bool ((List.range n).all p)) ∧ Below w.heap.size w w' := by
  subst hv
  have hb0 := below_alloc' w (.cells #[.int .i64 n, .slice A m c] 68)
  have hk0 := Blk.new w 68 #[.int .i64 n, .slice A m c]
  have hkl := hk0.lt
  have HK := Lib.hid hk0
  have HB := Lib.hid hb0
  have HF := Lib.hid hf
  clear hf hb0 hk0
  go_enter Tryz.func147, Tryz.ntmps147
  go_wp2
  go_loopw [8] (fun i wr => ∃ j : Nat, j ≤ n ∧ i = .int .i64 j ∧ (∀ i < j, p i = true) ∧ Below w.heap.size w wr) (fun i _ => n - (intOf i).toNat)
  case atStart => exact ⟨0, Nat.zero_le _, rfl, fun i hi => by omega, HB.out⟩
  case round =>
    obtain ⟨j, hj, rfl, hh, hb⟩ := hrel
    have Hh := Lib.hid hh; clear hh
    by_cases hlt : j < n
    · go_wp2_with fail
      refine (HF.out wr hb j hlt).mono ?_
      rintro e w1 ⟨rfl, hb1⟩
      have HB1 : Hid (Below w.heap.size w w1) := Lib.hid (hb.trans (hb1.mono hb.size))
      clear hb1 hb
      by_cases hp : p j = true
      · rw [hp]
        have HP := Lib.hid hp; clear hp
        go_wp2
        go_roundw
        case rel => exact ⟨j + 1, by omega, by go_num, fun i hi => (Nat.lt_or_ge i j).elim (fun h => Hh.out i h) (fun h => (show i = j by omega) ▸ HP.out), HB1.out⟩
        case measure => simp [intOf]; omega
      · have HE : Hid ((List.range n).all p = false) := Lib.hid (by rw [← Bool.not_eq_true, List.all_eq_true]; exact fun h => hp (h j (List.mem_range.2 hlt)))
        rw [Bool.not_eq_true] at hp
        rw [hp]
        have HP := Lib.hid hp; clear hp
        go_wp2
        go_ret
        exact ⟨by rw [HE.out]; rfl, HB1.out⟩
    · have HE : Hid ((List.range n).all p = true) := Lib.hid (by rw [List.all_eq_true]; exact fun i hi => Hh.out i (by rw [List.mem_range] at hi; omega))
      have HB1 := Lib.hid hb; clear hb
      go_wp2
      go_ret
      exact ⟨by rw [HE.out]; rfl, HB1.out⟩
end Go.Proofs.YtkdldfomdbgcaaaGreat

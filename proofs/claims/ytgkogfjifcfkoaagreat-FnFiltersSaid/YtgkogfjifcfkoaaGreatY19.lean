/- Relations of up to thirty elements, of the program: closure, inverse, the flags 0, 2 and 8, classes. Written by gen18G.py. -/
import Derived.Test.YtgkogfjifcfkoaaGreatY14
import Derived.StillTailTactics
import Derived.Deep.RegionHeld3
namespace Go.Proofs.YtgkogfjifcfkoaaGreat
open Go.RowKit
set_option linter.unusedVariables false
set_option linter.unusedSimpArgs false
theorem i64_and_nat8M (a b : Nat) (ha : a < 1073741824) (hb : b < 1073741824) : bits .and .i64 (a : Int) (b : Int) = ((a &&& b : Nat) : Int) := i64_and_nat a b (by omega) (by omega)
set_option maxRecDepth 100000 in
theorem impl_transitiveM (v : Value) (ns : List Nat) (w : World) (h : Sl cI w v (li ns)) (hr : RelM ns) :
    Calls Tryz.prog 185 #[v] w fun e w' => ∃ u, e = .returned u ∧ Ow cI 2 w.heap.size w' u (li (clo ns ns.length)) ∧ Below w.heap.size w w' := by
  have HN := Lib.hid hr
  have H0 := Lib.hid h
  have h8 := hr.1
  have EL := Lib.hid (li_length ns)
  clear h hr
  go_enter Tryz.func185, Tryz.ntmps185
  go_wp2_with fail
  refine (slices_Clone_int64 v (li ns) _ H0.out (by rw [EL.out]; omega)).mono ?_
  rintro e w1 ⟨u, rfl, ho, hb⟩
  obtain ⟨A, c, rfl⟩ := ho.opn
  rw [EL.out] at ho ⊢
  have HO := Lib.hid ho
  have HB := Lib.hid hb
  clear ho hb H0 EL
  go_wp2
  go_loopw [10] (fun k wr => ∃ j : Nat, j ≤ ns.length ∧ k = .int .i64 j ∧ Ow cI 2 w.heap.size wr (.slice A ns.length c) (li (clo ns j)) ∧ Below w.heap.size w wr) (fun k _ => ns.length - (intOf k).toNat)
  case atStart => exact ⟨0, Nat.zero_le _, rfl, HO.out, HB.out⟩
  case round =>
    obtain ⟨k, hk, rfl, ho, hb⟩ := hrel
    have HOr := Lib.hid ho
    have HBr := Lib.hid hb
    clear ho hb HO HB
    by_cases hlt : k < ns.length
    · have HC : Hid (clo ns (k + 1) = cin (clo ns k) k ns.length) := Lib.hid rfl
      have HLT := Lib.hid (clo_lt HN.out.2 k)
      have HLE := Lib.hid (clo_length ns k)
      obtain ⟨o, ho⟩ : ∃ o, clo ns k = o := ⟨_, rfl⟩
      rw [ho] at HOr HC HLT HLE
      clear ho
      go_wp2
      go_loopw [15] (fun i wq => ∃ j : Nat, j ≤ ns.length ∧ i = .int .i64 j ∧ Ow cI 2 w.heap.size wq (.slice A ns.length c) (li (cin o k j)) ∧ Below w.heap.size w wq) (fun i _ => ns.length - (intOf i).toNat)
      case atStart => exact ⟨0, Nat.zero_le _, rfl, HOr.out, HBr.out⟩
      case round =>
        obtain ⟨i, hi, rfl, ho, hb⟩ := hrel
        have HC2 : Hid (cin o k (i + 1) = cst (cin o k i) k i) := Lib.hid rfl
        have HL2 := Lib.hid ((cin_length o k i).trans HLE.out)
        have HB2 := Lib.hid (cin_lt HLT.out k i)
        have HB1 := Lib.hid hb
        clear hb HBr HOr
        by_cases hlt2 : i < ns.length
        · obtain ⟨p, hp⟩ : ∃ p, cin o k i = p := ⟨_, rfl⟩
          rw [hp] at HC2 HL2 HB2 ho
          clear hp
          obtain ⟨g, c', hg, hg1, -, -, -⟩ := ho.form (by rw [li_length, HL2.out]; omega)
          injection hg with hA hn hc
          subst hA
          subst hc
          clear hn
          obtain ⟨ci, -, -, -⟩ := ho.at1 rfl (j := i) (by rw [li_length, HL2.out]; omega) rfl
          obtain ⟨ck, -, -, -⟩ := ho.at1 rfl (j := k) (by rw [li_length, HL2.out]; omega) rfl
          rw [li_get] at ci ck
          have hod := ho.below (Below.refl _ _).drew
          obtain ⟨ci4, fi, -, -⟩ := hod.at1 rfl (j := i) (by rw [li_length, HL2.out]; omega) rfl
          rw [li_get] at ci4
          have hset := Lib.hid ((hod.set1 (j := i) (x := ((p.getD i 0 ||| p.getD k 0 : Nat) : Int)) (u := .int .i64 (p.getD i 0 ||| p.getD k 0 : Nat)) rfl rfl (by rw [li_length, HL2.out]; omega)))
          rw [li_set] at hset
          have hbs := Lib.hid ((HB1.out.drew).setCell hg1 (p := ⟨g, i, none⟩) (.int .i64 (p.getD i 0 ||| p.getD k 0 : Nat)))
          have HP := Lib.hid ho
          have hx := Nat.lt_of_lt_of_le (getD_lt HB2.out i) (two_pow_30 h8)
          have hy := Nat.lt_of_lt_of_le (getD_lt HB2.out k) (two_pow_30 h8)
          have HE : Hid (cin o k (i + 1) = if (p.getD i 0).testBit k then p.set i (p.getD i 0 ||| p.getD k 0) else p) := Lib.hid HC2.out
          clear ho hod HC2
          generalize p.getD i 0 = x at *
          generalize p.getD k 0 = y at *
          go_wp2_with fail
          refine (impl_has x k _ (by omega) (by omega)).mono ?_
          rintro e w3 ⟨rfl, rfl⟩
          cases ht : x.testBit k
          · rw [if_neg (by rw [ht]; decide)] at HE
            clear ht hset hbs
            go_wp2
            go_roundw
            case rel => exact ⟨i + 1, by omega, by go_num, by rw [HE.out]; exact HP.out, HB1.out⟩
            case measure => simp [intOf]; omega
          · rw [if_pos ht] at HE
            have e2 := i64_or_nat x y (by omega) (by omega)
            clear ht
            go_wp2
            go_still_tail 10, (by kernel_rfl)
            change wpList _ _ _ _ _ (World.drew _)
            clear ci ck
            generalize World.drew _ = w4 at *
            go_wp2
            go_roundw
            case rel => exact ⟨i + 1, by omega, by go_num, by rw [HE.out]; exact hset.out, hbs.out⟩
            case measure => simp [intOf]; omega
        · obtain rfl : i = ns.length := by omega
          rw [← HC.out] at ho
          have HP := Lib.hid ho
          clear ho
          go_wp2
          go_roundw
          case rel => exact ⟨k + 1, by omega, by go_num, HP.out, HB1.out⟩
          case measure => simp [intOf]; omega
    · obtain rfl : k = ns.length := by omega
      go_wp2
      go_ret
      exact ⟨_, rfl, HOr.out, HBr.out⟩
set_option maxRecDepth 100000 in
theorem impl_inverseM (v : Value) (ns : List Nat) (w : World) (h : Sl cI w v (li ns)) (hr : RelM ns) :
    Calls Tryz.prog 133 #[v] w fun e w' => ∃ A m c, e = .returned (.slice A m c) ∧ Below w.heap.size w w' := by
  obtain ⟨A, c, rfl⟩ := h.opn
  have HN := Lib.hid hr
  have h8 := hr.1
  have EL := Lib.hid (li_length ns)
  rw [EL.out] at h ⊢
  have H0 := Lib.hid h
  clear h hr
  go_enter Tryz.func133, Tryz.ntmps133
  go_wp2_with (at_make; refine stopHere ?_)
  refine goHere ?_
  refine mk_full (K := cI) w ty_int64 rfl _ _ rfl w.heap.size ns.length 0 rfl rfl rfl (by omega) (Nat.le_refl _) ?_
  intro w1 ho hg hb hz
  have EZ : List.replicate ns.length (0 : Int) = li (List.replicate ns.length 0) := by unfold li; rw [List.map_replicate]; rfl
  rw [EZ] at ho
  have HO := Lib.hid ho
  have HB := Lib.hid hb
  clear ho hb hg hz EZ
  go_wp2
  go_loopw [13] (fun k wr => ∃ j : Nat, j ≤ ns.length ∧ k = .int .i64 j ∧ (∃ os : List Nat, os.length = ns.length ∧ (∀ x ∈ os, x < 2 ^ ns.length) ∧ Ow cI 2 w.heap.size wr (.slice (some ⟨w.heap.size, 0, none⟩) ns.length ns.length) (li os)) ∧ Below w.heap.size w wr) (fun k _ => ns.length - (intOf k).toNat)
  case atStart => exact ⟨0, Nat.zero_le _, rfl, ⟨_, by simp, fun x hx => by rw [List.mem_replicate] at hx; rw [hx.2]; exact Nat.pow_pos (by decide), HO.out⟩, HB.out⟩
  case round =>
    obtain ⟨k, hk, rfl, ⟨os, hol, hlt, ho⟩, hb⟩ := hrel
    by_cases hkl : k < ns.length
    · have hk' : k < (li ns).length := by rw [EL.out]; exact hkl
      obtain ⟨b, o, rfl, hbl, hc0⟩ := (H0.out.below hb).atI hk'
      rw [li_get] at hc0
      have HX := Lib.hid (getD_lt HN.out.2 k)
      have hx := Nat.lt_of_lt_of_le HX.out (two_pow_30 h8)
      have HOr := Lib.hid ho
      have HBr := Lib.hid hb
      have HL := Lib.hid hol
      have HT := Lib.hid hlt
      generalize ns.getD k 0 = m at *
      clear ho hb hol hlt HO HB
      go_wp2_with fail
      refine (impl_membersOf m _ (by omega)).mono ?_
      rintro e w3 ⟨vm, rfl, hom, hbm⟩
      obtain ⟨A2, c2, rfl⟩ := hom.opn
      have hsz1 : w.heap.size + 1 ≤ _ := (HOr.out.at1 rfl (j := k) (by rw [li_length, HL.out]; omega) rfl).2.2.2
      have HM := Lib.hid (hom.mono hsz1)
      clear hsz1
      have HB3 := Lib.hid (bthen HBr.out hbm)
      have HO3 := Lib.hid (HOr.out.below hbm)
      have hml := mems_length m
      clear hom hbm hc0
      generalize hmm : mems m = ms at *
      have HMM := Lib.hid hmm
      clear hmm
      go_wp2
      go_loopw [21] (fun i wq => ∃ j : Nat, j ≤ ms.length ∧ i = .int .i64 j ∧ Ow cI 2 (w.heap.size + 1) wq (.slice A2 ms.length c2) ms ∧ (∃ os : List Nat, os.length = ns.length ∧ (∀ x ∈ os, x < 2 ^ ns.length) ∧ Ow cI 2 w.heap.size wq (.slice (some ⟨w.heap.size, 0, none⟩) ns.length ns.length) (li os)) ∧ Below w.heap.size w wq) (fun i _ => ms.length - (intOf i).toNat)
      case atStart => exact ⟨0, Nat.zero_le _, rfl, HM.out, ⟨os, HL.out, HT.out, HO3.out⟩, HB3.out⟩
      case round =>
        obtain ⟨i, hi, rfl, hs, ⟨ps, hpl, hpt, hp⟩, hb⟩ := hrel
        clear HM HO3 HB3
        by_cases hil : i < ms.length
        · obtain ⟨b2, o2, rfl, hbl2, hd0⟩ := hs.sl.atI hil
          obtain ⟨x, hxx, hxn⟩ := mems_mem (n := ns.length) HX.out (x := ms[i]) (by rw [HMM.out]; exact List.getElem_mem hil)
          rw [hxx] at hd0
          clear hxx
          obtain ⟨cj, -, -, -⟩ := hp.at1 rfl (j := x) (by rw [li_length, hpl]; omega) rfl
          have hod := hp.below (Below.refl _ _).drew
          obtain ⟨cj4, fj, -, -⟩ := hod.at1 rfl (j := x) (by rw [li_length, hpl]; omega) rfl
          rw [li_get] at cj cj4
          have hset := Lib.hid ((hod.set1 (j := x) (x := ((ps.getD x 0 ||| 2 ^ k : Nat) : Int)) (u := .int .i64 (ps.getD x 0 ||| 2 ^ k : Nat)) rfl rfl (by rw [li_length, hpl]; omega)))
          rw [li_set] at hset
          have hsl := hs.below ((Below.refl wr.heap.size wr).drew)
          have hne : w.heap.size ≤ w.heap.size := Nat.le_refl _
          have hbs := Lib.hid ((hb.drew).setCell (p := ⟨w.heap.size, x, none⟩) hne (.int .i64 (ps.getD x 0 ||| 2 ^ k : Nat)))
          have HSS := Lib.hid (hsl.setBelow (p := ⟨w.heap.size, x, none⟩) (by show w.heap.size < w.heap.size + 1; omega) (.int .i64 (ps.getD x 0 ||| 2 ^ k : Nat)))
          have HPT := Lib.hid (set_lt hpt x (ps.getD x 0 ||| 2 ^ k) (Nat.or_lt_two_pow (getD_lt hpt x) (Nat.pow_lt_pow_right (by decide) hkl)))
          have HPL : Hid ((ps.set x (ps.getD x 0 ||| 2 ^ k)).length = ns.length) := Lib.hid (by rw [List.length_set, hpl])
          have hy := Nat.lt_of_lt_of_le (getD_lt hpt x) (two_pow_30 h8)
          clear hp hod hs hsl hpt hb hpl
          generalize ps.getD x 0 = y at *
          have e2 := i64_or_nat y (2 ^ k) (by omega) (two_pow_lt (by omega))
          have e3 := wrap_two_pow'' (n := k) (by omega)
          rw [← cast_two_pow] at e2
          go_wp2
          go_still_tail 8, (by kernel_rfl)
          change wpList _ _ _ _ _ (World.drew _)
          clear cj hd0 hbl2
          generalize World.drew _ = w4 at *
          go_wp2
          go_roundw
          case rel => exact ⟨i + 1, by omega, by go_num, HSS.out, ⟨_, HPL.out, HPT.out, hset.out⟩, hbs.out⟩
          case measure => simp [intOf]; omega
        · obtain rfl : i = ms.length := by omega
          have HPP : Hid (∃ os : List Nat, os.length = ns.length ∧ (∀ x ∈ os, x < 2 ^ ns.length) ∧ Ow cI 2 w.heap.size wr (.slice (some ⟨w.heap.size, 0, none⟩) ns.length ns.length) (li os)) := Lib.hid ⟨ps, hpl, hpt, hp⟩
          have HBB := Lib.hid hb
          clear hp hb hs hpt
          go_wp2
          go_roundw
          case rel => exact ⟨k + 1, by omega, by go_num, HPP.out, HBB.out⟩
          case measure => simp [intOf]; omega
    · obtain rfl : k = ns.length := by omega
      go_wp2
      go_ret
      exact ⟨_, _, _, rfl, hb⟩
theorem impl_everyWorldM (n : Nat) (v : Value) (A : Option Addr) (m c : Nat) (hv : v = .slice A m c) (k : FuncId) (cap : Array Value) (p : Nat → Bool) (w : World) (hn : n ≤ 30)
    (hk : ∀ (args : Array Value) (w : World), (callFunc k args).run Tryz.prog w = .ok (.enter k args) w)
    (hf : ∀ w', Below w.heap.size w w' → ∀ (i : Nat), i < n → Calls Tryz.prog k (#[.int .i64 i] ++ cap) w' fun e w'' => e = .returned (.bool (p i)) ∧ Below w'.heap.size w' w'') :
    Calls Tryz.prog 181 #[.agg #[.int .i64 n, v], .func (.func k) #[] cap] w fun e w' => e = .returned (.bool ((List.range n).all p)) ∧ Below w.heap.size w w' := by
  subst hv
  have hb0 := below_alloc' w (.cells #[.int .i64 n, .slice A m c] 122)
  have hk0 := Blk.new w 122 #[.int .i64 n, .slice A m c]
  have hkl := hk0.lt
  have HK := Lib.hid hk0
  have HB := Lib.hid hb0
  have HF := Lib.hid hf
  clear hf hb0 hk0
  go_enter Tryz.func181, Tryz.ntmps181
  go_wp2
  go_loopw [8] (fun i wr => ∃ j : Nat, j ≤ n ∧ i = .int .i64 j ∧ (∀ i < j, p i = true) ∧ Below w.heap.size w wr) (fun i _ => n - (intOf i).toNat)
  case atStart => exact ⟨0, Nat.zero_le _, rfl, fun i hi => by omega, HB.out⟩
  case round =>
    obtain ⟨j, hj, rfl, hh, hb⟩ := hrel
    have Hh := Lib.hid hh; clear hh
    by_cases hlt : j < n
    · go_wp2_with fail
      refine (HF.out wr hb j hlt).mono ?_
      rintro e w1 ⟨rfl, hb1⟩
      have HB1 : Hid (Below w.heap.size w w1) := Lib.hid (hb.trans (hb1.mono hb.size))
      clear hb1 hb
      by_cases hp : p j = true
      · rw [hp]
        have HP := Lib.hid hp; clear hp
        go_wp2
        go_roundw
        case rel => exact ⟨j + 1, by omega, by go_num, fun i hi => (Nat.lt_or_ge i j).elim (fun h => Hh.out i h) (fun h => (show i = j by omega) ▸ HP.out), HB1.out⟩
        case measure => simp [intOf]; omega
      · have HE : Hid ((List.range n).all p = false) := Lib.hid (by rw [← Bool.not_eq_true, List.all_eq_true]; exact fun h => hp (h j (List.mem_range.2 hlt)))
        rw [Bool.not_eq_true] at hp
        rw [hp]
        have HP := Lib.hid hp; clear hp
        go_wp2
        go_ret
        exact ⟨by rw [HE.out]; rfl, HB1.out⟩
    · have HE : Hid ((List.range n).all p = true) := Lib.hid (by rw [List.all_eq_true]; exact fun i hi => Hh.out i (by rw [List.mem_range] at hi; omega))
      have HB1 := Lib.hid hb; clear hb
      go_wp2
      go_ret
      exact ⟨by rw [HE.out]; rfl, HB1.out⟩
set_option maxRecDepth 100000 in
theorem impl_inverse_inM (v : Value) (ns : List Nat) (w : World) (h : Sl cI w v (li ns)) (hr : RelM ns) :
    Calls Tryz.prog 133 #[v] w fun e w' => ∃ u, e = .returned u ∧ Ow cI 2 w.heap.size w' u (li (inv ns)) ∧ Below w.heap.size w w' := by
  obtain ⟨A, c, rfl⟩ := h.opn
  have HN := Lib.hid hr
  have h8 := hr.1
  have EL := Lib.hid (li_length ns)
  rw [EL.out] at h ⊢
  have H0 := Lib.hid h
  clear h hr
  go_enter Tryz.func133, Tryz.ntmps133
  go_wp2_with (at_make; refine stopHere ?_)
  refine goHere ?_
  refine mk_full (K := cI) w ty_int64 rfl _ _ rfl w.heap.size ns.length 0 rfl rfl rfl (by omega) (Nat.le_refl _) ?_
  intro w1 ho hg hb hz
  have EZ : List.replicate ns.length (0 : Int) = li (List.replicate ns.length 0) := by unfold li; rw [List.map_replicate]; rfl
  rw [EZ] at ho
  have HO := Lib.hid ho
  have HB := Lib.hid hb
  clear ho hb hg hz EZ
  go_wp2
  go_loopw [13] (fun k wr => ∃ j : Nat, j ≤ ns.length ∧ k = .int .i64 j ∧ (∃ os : List Nat, IV ns j (fun _ => False) os ∧ Ow cI 2 w.heap.size wr (.slice (some ⟨w.heap.size, 0, none⟩) ns.length ns.length) (li os)) ∧ Below w.heap.size w wr) (fun k _ => ns.length - (intOf k).toNat)
  case atStart => exact ⟨0, Nat.zero_le _, rfl, ⟨_, IV.zero ns, HO.out⟩, HB.out⟩
  case round =>
    obtain ⟨k, hk, rfl, ⟨os, hiv, ho⟩, hb⟩ := hrel
    have hol := hiv.1
    have hlt := hiv.2.1
    have HIV := Lib.hid hiv
    clear hiv
    by_cases hkl : k < ns.length
    · have hk' : k < (li ns).length := by rw [EL.out]; exact hkl
      obtain ⟨b, o, rfl, hbl, hc0⟩ := (H0.out.below hb).atI hk'
      rw [li_get] at hc0
      have HX := Lib.hid (getD_lt HN.out.2 k)
      have hx := Nat.lt_of_lt_of_le HX.out (two_pow_30 h8)
      have HOr := Lib.hid ho
      have HBr := Lib.hid hb
      have HL := Lib.hid hol
      have HT := Lib.hid hlt
      have HNK : Hid (∀ x, x < ns.length → (((x : Int) ∈ mems (ns.getD k 0)) ↔ (ns.getD k 0).testBit x = true)) := Lib.hid (fun x hx => mems_bit (by omega))
      have HNX := Lib.hid (fun (Q : Nat → Prop) ps (h : IV ns k Q ps) hQ => IV.next h hQ)
      generalize ns.getD k 0 = m at *
      clear ho hb hol hlt HO HB
      go_wp2_with fail
      refine (impl_membersOf m _ (by omega)).mono ?_
      rintro e w3 ⟨vm, rfl, hom, hbm⟩
      obtain ⟨A2, c2, rfl⟩ := hom.opn
      have hsz1 : w.heap.size + 1 ≤ _ := (HOr.out.at1 rfl (j := k) (by rw [li_length, HL.out]; omega) rfl).2.2.2
      have HM := Lib.hid (hom.mono hsz1)
      clear hsz1
      have HB3 := Lib.hid (bthen HBr.out hbm)
      have HO3 := Lib.hid (HOr.out.below hbm)
      have hml := mems_length m
      clear hom hbm hc0
      generalize hmm : mems m = ms at *
      have HMM := Lib.hid hmm
      clear hmm
      go_wp2
      go_loopw [21] (fun i wq => ∃ j : Nat, j ≤ ms.length ∧ i = .int .i64 j ∧ Ow cI 2 (w.heap.size + 1) wq (.slice A2 ms.length c2) ms ∧ (∃ os : List Nat, IV ns k (fun x => (x : Int) ∈ ms.take j) os ∧ Ow cI 2 w.heap.size wq (.slice (some ⟨w.heap.size, 0, none⟩) ns.length ns.length) (li os)) ∧ Below w.heap.size w wq) (fun i _ => ms.length - (intOf i).toNat)
      case atStart => exact ⟨0, Nat.zero_le _, rfl, HM.out, ⟨os, by have := HIV.out; simpa using this, HO3.out⟩, HB3.out⟩
      case round =>
        obtain ⟨i, hi, rfl, hs, ⟨ps, hiv2, hp⟩, hb⟩ := hrel
        have hpl := hiv2.1
        have hpt := hiv2.2.1
        have HIV2 := Lib.hid hiv2
        clear hiv2
        clear HM HO3 HB3
        by_cases hil : i < ms.length
        · obtain ⟨b2, o2, rfl, hbl2, hd0⟩ := hs.sl.atI hil
          obtain ⟨x, hxx, hxn⟩ := mems_mem (n := ns.length) HX.out (x := ms[i]) (by rw [HMM.out]; exact List.getElem_mem hil)
          have HIV3 := Lib.hid (HIV2.out.step hkl hxn (Q' := fun z => (z : Int) ∈ ms.take (i + 1)) (fun z => by
            rw [List.take_succ_eq_append_getElem hil, List.mem_append, List.mem_singleton, hxx]
            constructor
            · rintro (h | h)
              · exact .inl h
              · exact .inr (by omega)
            · rintro (h | h)
              · exact .inl h
              · exact .inr (by omega)))
          rw [hxx] at hd0
          clear hxx
          obtain ⟨cj, -, -, -⟩ := hp.at1 rfl (j := x) (by rw [li_length, hpl]; omega) rfl
          have hod := hp.below (Below.refl _ _).drew
          obtain ⟨cj4, fj, -, -⟩ := hod.at1 rfl (j := x) (by rw [li_length, hpl]; omega) rfl
          rw [li_get] at cj cj4
          have hset := Lib.hid ((hod.set1 (j := x) (x := ((ps.getD x 0 ||| 2 ^ k : Nat) : Int)) (u := .int .i64 (ps.getD x 0 ||| 2 ^ k : Nat)) rfl rfl (by rw [li_length, hpl]; omega)))
          rw [li_set] at hset
          have hsl := hs.below ((Below.refl wr.heap.size wr).drew)
          have hne : w.heap.size ≤ w.heap.size := Nat.le_refl _
          have hbs := Lib.hid ((hb.drew).setCell (p := ⟨w.heap.size, x, none⟩) hne (.int .i64 (ps.getD x 0 ||| 2 ^ k : Nat)))
          have HSS := Lib.hid (hsl.setBelow (p := ⟨w.heap.size, x, none⟩) (by show w.heap.size < w.heap.size + 1; omega) (.int .i64 (ps.getD x 0 ||| 2 ^ k : Nat)))
          have HPT := Lib.hid (set_lt hpt x (ps.getD x 0 ||| 2 ^ k) (Nat.or_lt_two_pow (getD_lt hpt x) (Nat.pow_lt_pow_right (by decide) hkl)))
          have HPL : Hid ((ps.set x (ps.getD x 0 ||| 2 ^ k)).length = ns.length) := Lib.hid (by rw [List.length_set, hpl])
          have hy := Nat.lt_of_lt_of_le (getD_lt hpt x) (two_pow_30 h8)
          clear hp hod hs hsl hpt hb hpl
          generalize ps.getD x 0 = y at *
          have e2 := i64_or_nat y (2 ^ k) (by omega) (two_pow_lt (by omega))
          have e3 := wrap_two_pow'' (n := k) (by omega)
          rw [← cast_two_pow] at e2
          go_wp2
          go_still_tail 8, (by kernel_rfl)
          change wpList _ _ _ _ _ (World.drew _)
          clear cj hd0 hbl2
          generalize World.drew _ = w4 at *
          go_wp2
          go_roundw
          case rel => exact ⟨i + 1, by omega, by go_num, HSS.out, ⟨_, HIV3.out, hset.out⟩, hbs.out⟩
          case measure => simp [intOf]; omega
        · obtain rfl : i = ms.length := by omega
          have HPP : Hid (∃ os : List Nat, IV ns (k + 1) (fun _ => False) os ∧ Ow cI 2 w.heap.size wr (.slice (some ⟨w.heap.size, 0, none⟩) ns.length ns.length) (li os)) := Lib.hid ⟨ps, HNX.out _ ps HIV2.out (fun x hx => by rw [List.take_length]; exact HNK.out x hx), hp⟩
          have HBB := Lib.hid hb
          clear hp hb hs hpt
          go_wp2
          go_roundw
          case rel => exact ⟨k + 1, by omega, by go_num, HPP.out, HBB.out⟩
          case measure => simp [intOf]; omega
    · obtain rfl : k = ns.length := by omega
      have HE : Hid (os = inv ns) := Lib.hid (HIV.out.done)
      rw [HE.out] at ho
      have HO2 := Lib.hid ho
      clear ho
      go_wp2
      go_ret
      exact ⟨_, rfl, HO2.out, hb⟩
set_option maxRecDepth 100000 in
theorem impl_hasFlag_2M (ns : List Nat) (v : Value) (w : World) (h : Sl cI w v (li ns)) (hr : RelM ns) :
    Calls Tryz.prog 132 #[.agg #[.int .i64 ns.length, v], .int .i64 2] w fun e w' => e = .returned (.bool (trv ns)) ∧ Below w.heap.size w w' := by
  obtain ⟨A, c, rfl⟩ := h.opn
  have h8 := hr.1
  have EL := Lib.hid (li_length ns)
  rw [EL.out] at h ⊢
  have hb0 := below_alloc' w (.cells #[.int .i64 ns.length, .slice A ns.length c] 122)
  have hk0 := Blk.new w 122 #[.int .i64 ns.length, .slice A ns.length c]
  have hkl := hk0.lt
  have HK := Lib.hid hk0
  have HS := Lib.hid (h.below hb0)
  have HB := Lib.hid hb0
  have HN := Lib.hid hr
  obtain ⟨cs, hcs⟩ : ∃ cs, cs = clo ns ns.length := ⟨_, rfl⟩
  have EC : Hid (cs.length = ns.length) := Lib.hid (by rw [hcs, clo_length])
  have HC : Hid (∀ i, cs.getD i 0 < 1073741824) := Lib.hid (fun i => Nat.lt_of_lt_of_le (getD_lt (by rw [hcs]; exact clo_lt hr.2 _) i) (two_pow_30 h8))
  have HT := Lib.hid (fun W (hW : Sl cI W (.slice A ns.length c) (li ns)) => hcs ▸ impl_transitiveM _ ns W hW hr)
  have HE := Lib.hid (fun W vB (hW : Sl cI W vB (li cs)) (hW2 : Sl cI W (.slice A ns.length c) (li ns)) => slices_Equal_int64 _ _ _ _ W hW hW2 (by rw [li_length, EC.out]; omega) (by rw [li_length, li_length, EC.out]))
  have ET : Hid (trv ns = decide (li cs = li ns)) := Lib.hid (by rw [li_eq_iff, trv_clo, hcs])
  have EA : Hid (acy ns = (List.range ns.length).all fun x => !(cs.getD x 0).testBit x) := Lib.hid (by rw [hcs]; rfl)
  clear h hb0 hk0 hr hcs
  go_enter Tryz.func132, Tryz.ntmps132
  go_wp2_with fail
  refine (impl_inverseM _ ns _ HS.out HN.out).mono ?_
  rintro e w1 ⟨A1, m1, c1, rfl, hb⟩
  have HS1 := Lib.hid (HS.out.below hb)
  have HK1 := Lib.hid (HK.out.below hb hkl)
  have HB1 := Lib.hid (HB.out.trans (hb.mono HB.out.size))
  clear hb
  go_upto_region 8 with fail
  have hb2 := below_alloc' w1 (.cells #[.slice A1 m1 c1] 27)
  have HS2 := Lib.hid (HS1.out.below hb2)
  have hk2 := HK1.out.below hb2 HK1.out.lt
  have HK2 := Lib.hid hk2
  have HB2 := Lib.hid (bthen HB1.out hb2)
  clear hb2 HS1 HK1 HB1
  generalize w1.alloc (.cells #[.slice A1 m1 c1] 27) = W at *
  have d0 : W.cell? ⟨w.heap.size, 0, none⟩ = some (.int .i64 ns.length) := hk2.cell 0
  have d1 : W.cell? ⟨w.heap.size, 1, none⟩ = some (.slice A ns.length c) := hk2.cell 1
  have hlt := hk2.lt
  clear hk2
  go_region_held3 (fun w' => w'.cell? ⟨w.heap.size, 1, none⟩ = some (.slice A ns.length c)) (first | exact d1'' | exact d1' | exact d1 | (simp [*]; done)) (first | (go_at_call 185; refine (HT.out _ (HS2.out.below (below_drewN (Below.refl _ _) 1))).mono ?_; rintro e w2 ⟨u, rfl, ho, hb2⟩; have hb3 : Below W.heap.size W w2 := (below_drewN (Below.refl _ _) 1).trans hb2; have d1' := (hb3.cell (p := ⟨w.heap.size, 1, none⟩) hlt).trans d1; have hs3 := HS2.out.below hb3) | (go_at_call 137; refine (HE.out _ _ ho.sl hs3).mono ?_; rintro e w3 ⟨rfl, hb4⟩; have d1'' := (hb4.cell (p := ⟨w.heap.size, 1, none⟩) (Nat.lt_of_lt_of_le hlt hb3.size)).trans d1'))
  all_goals
    have HB3 := Lib.hid (bthen (bthen HB2.out hb3) hb4)
    clear d1'' d1' hb2 hb3 hb4 hs3
    go_wp2
    go_ret
    exact ⟨by rw [ET.out]; rfl, HB3.out⟩
theorem impl_seesM (ns : List Nat) (A0 : Option Addr) (c0 : Nat) (x y : Nat) (w : World) (h : Sl cI w (.slice A0 ns.length c0) (li ns)) (hr : RelM ns) (hx : x < ns.length) (hy : y ≤ 30) :
    Calls Tryz.prog 183 #[.agg #[.int .i64 ns.length, .slice A0 ns.length c0], .int .i64 x, .int .i64 y] w fun e w' => e = .returned (.bool ((ns.getD x 0).testBit y)) ∧ Below w.heap.size w w' := by
  have hb0 := below_alloc' w (.cells #[.int .i64 ns.length, .slice A0 ns.length c0] 122)
  have HK := Lib.hid (Blk.new w 122 #[.int .i64 ns.length, .slice A0 ns.length c0])
  have HB := Lib.hid hb0
  have LN := Lib.hid (li_length ns)
  have h0 := h.below hb0
  have hm := Nat.lt_of_lt_of_le (getD_lt hr.2 x) (two_pow_30 hr.1)
  obtain ⟨b, o, rfl, hbl, hc0⟩ := (show Sl cI _ (.slice A0 (li ns).length c0) (li ns) by rw [LN.out]; exact h0).atI (k := x) (by rw [LN.out]; exact hx)
  rw [li_get] at hc0
  clear h h0 hb0
  obtain ⟨m, hmm⟩ : ∃ m, ns.getD x 0 = m := ⟨_, rfl⟩
  rw [hmm] at hc0 hm ⊢
  clear hmm
  go_enter Tryz.func183, Tryz.ntmps183
  go_upto_region 1 with fail
  generalize World.alloc w _ = W at *
  have k0 := HK.out.cell
  have l0 := HK.out.lt
  have i1 : (x : Int) < (ns.length : Int) := by omega
  go_wp2_with fail
  refine (impl_has m y _ (by omega) (by omega)).mono ?_
  rintro e w1 ⟨rfl, rfl⟩
  go_wp2
  go_ret
  exact ⟨rfl, HB.out⟩
/- hasFlag of the program at 0, 1, 4, 5, 6, 8, 9 and 10. Written by gen14G.py. -/
theorem inv_256M (ns : List Nat) (hr : RelM ns) (i : Nat) : (inv ns).getD i 0 < 1073741824 := Nat.lt_of_lt_of_le (getD_lt (lnk_lt _ _ _) i) (two_pow_30 hr.1)
theorem rel_256M (ns : List Nat) (hr : RelM ns) (i : Nat) : ns.getD i 0 < 1073741824 := Nat.lt_of_lt_of_le (getD_lt hr.2 i) (two_pow_30 hr.1)
theorem impl_cond_1M (x y z : Nat) (F B : Nat) (ns : List Nat) (A A1 : Option Addr) (c c1 : Nat) (W : World) (h : Bx W F B ns A A1 c c1) (hr : RelM ns) (hx : x < ns.length) (hy : y < ns.length) (hz : z < ns.length) :
    Calls Tryz.prog 182 #[.int .i64 x, .pointer (some ⟨F, 0, none⟩)] W fun e w' => e = .returned (.bool ((ns.getD x 0).testBit x)) ∧ Below W.heap.size W w' := by
  have h8 := hr.1
  have f0 := h.f0
  have f1 := h.f1
  have fl := h.fl
  have HSe := Lib.hid (fun X hX => impl_seesM ns A c x x X (h.a.below (hX : Below W.heap.size W X)) hr hx (by omega))
  generalize (ns.getD x 0).testBit x = r at *
  clear h
  go_enter Tryz.func182, Tryz.ntmps182
  go_wp2_with fail
  refine (HSe.out _ (Below.refl _ _)).mono ?_
  rintro e w2 ⟨rfl, hb⟩
  have HB := Lib.hid hb
  clear hb f0 f1
  go_wp2
  go_ret
  exact ⟨rfl, HB.out⟩
theorem impl_cond_7M (x y z : Nat) (F B : Nat) (ns : List Nat) (A A1 : Option Addr) (c c1 : Nat) (W : World) (h : Bx W F B ns A A1 c c1) (hr : RelM ns) (hx : x < ns.length) (hy : y < ns.length) (hz : z < ns.length) :
    Calls Tryz.prog 191 #[.int .i64 x, .pointer (some ⟨F, 0, none⟩), .pointer (some ⟨B, 0, none⟩)] W fun e w' => e = .returned (.bool (decide (andnot (ns.getD x 0 &&& (inv ns).getD x 0) (2 ^ x) = 0))) ∧ Below W.heap.size W w' := by
  have h8 := hr.1
  have f0 := h.f0
  have f1 := h.f1
  have fl := h.fl
  have b0 := h.b0
  have bl := h.bl
  obtain ⟨bp, op, ep, hbp, hcp⟩ := h.a.atI (k := x) (by rw [li_length]; exact hx)
  rw [li_get] at hcp
  obtain ⟨bq, oq, eq, hbq, hcq⟩ := h.b.atI (k := x) (by rw [li_length, inv_length]; exact hx)
  rw [li_get] at hcq
  subst ep
  subst eq
  have q1 := rel_256M ns hr x
  have q2 := inv_256M ns hr x
  generalize ns.getD x 0 = m at *
  generalize (inv ns).getD x 0 = r at *
  have e1 := i64_and_nat8M m r q1 q2
  have hwm : (m &&& r) < 1073741824 := Nat.lt_of_le_of_lt Nat.and_le_left q1
  have hw : wrap64 ((2 : Int) ^ x) = 2 ^ x := wrap_two_pow (by omega)
  have hw2 : IntKind.i64.wrap ((2 : Int) ^ x) = 2 ^ x := by rw [wrap_two_pow'' (by omega), cast_two_pow]
  have HQ : Hid (∀ n, Calls Tryz.prog 192 #[.int .i64 (m &&& r : Nat), .int .i64 (2 ^ x)] (W.drewN n) fun e w'' => e = .returned (.bool (decide (andnot (m &&& r) (2 ^ x) = 0))) ∧ ∃ m, w'' = W.drewN m) := Lib.hid fun n => by
    have := q_within (a := m &&& r) (b := 2 ^ x) (by omega) (two_pow_lt (by omega)) W n
    rwa [← cast_two_pow] at this
  generalize m &&& r = q at *
  generalize decide (andnot q (2 ^ x) = 0) = zz at *
  have hx64 : x < 64 := by omega
  clear h
  go_enter Tryz.func191, Tryz.ntmps191
  go_upto_region 1 with fail
  go_quiet ((go_at_call 192; exact HQ.out _))
  go_wp2
  go_ret
  exact ⟨rfl, below_drewN (Below.refl _ _) _⟩
/- hasFlag of the program, in the reference's words. Written by gen14H.py. -/
theorem f8_eqM (ns : List Nat) (hr : RelM ns) : ((List.range ns.length).all fun x => decide (andnot (ns.getD x 0 &&& (inv ns).getD x 0) (2 ^ x) = 0)) = t3 ns (fun _ => true) (fun x y => !(!decide (x = y) && (ns.getD y 0).testBit x)) (fun _ _ _ => true) := by
  unfold t3
  refine all_range_congr fun x hx => ?_
  simp only [Bool.true_and]
  rw [Bool.eq_iff_iff, decide_eq_true_eq, andnot_zero, List.all_eq_true]
  constructor
  · intro h y hy
    have hy' := List.mem_range.1 hy
    have e : ((List.range ns.length).all fun z => !(ns.getD x 0).testBit z || true) = true := by simp
    rw [e, Bool.and_true]
    cases hb : (ns.getD x 0).testBit y
    · rfl
    · cases hc : (ns.getD y 0).testBit x
      · simp
      · have := h y (by rw [Nat.testBit_and, hb, inv_bit ns hx y, decide_eq_true hy', hc]; rfl)
        rw [Nat.testBit_two_pow] at this
        have hxy : x = y := by simpa using this
        simp [hxy]
  · intro h i hi
    rw [Nat.testBit_and, Bool.and_eq_true] at hi
    have hil := bit_lt (getD_lt hr.2 x) hi.1
    have h2 := h i (List.mem_range.2 hil)
    have e : ((List.range ns.length).all fun z => !(ns.getD x 0).testBit z || true) = true := by simp
    rw [e, Bool.and_true, hi.1] at h2
    have h3 := hi.2
    rw [inv_bit ns hx i, decide_eq_true hil, Bool.true_and] at h3
    rw [h3] at h2
    rw [Nat.testBit_two_pow]
    simpa using h2
set_option maxRecDepth 100000 in
theorem impl_hasFlag_014M (ns : List Nat) (v : Value) (w : World) (h : Sl cI w v (li ns)) (hr : RelM ns) :
    Calls Tryz.prog 132 #[.agg #[.int .i64 ns.length, v], .int .i64 0] w fun e w' => e = .returned (.bool (t3 ns (fun x => (ns.getD x 0).testBit x) (fun _ _ => true) (fun _ _ _ => true))) ∧ Below w.heap.size w w' := by
  obtain ⟨A, c, rfl⟩ := h.opn
  have h8 := hr.1
  have EL := Lib.hid (li_length ns)
  rw [EL.out] at h ⊢
  have hb0 := below_alloc' w (.cells #[.int .i64 ns.length, .slice A ns.length c] 122)
  have hk0 := Blk.new w 122 #[.int .i64 ns.length, .slice A ns.length c]
  have hkl := hk0.lt
  have HK := Lib.hid hk0
  have HS := Lib.hid (h.below hb0)
  have HB := Lib.hid hb0
  have HN := Lib.hid hr
  have EC : Hid ((li (inv ns)).length = ns.length) := Lib.hid (by rw [li_length, inv_length])
  have ET : Hid (t3 ns (fun x => (ns.getD x 0).testBit x) (fun _ _ => true) (fun _ _ _ => true) = (List.range ns.length).all (fun x => (ns.getD x 0).testBit x)) := Lib.hid (t3_one ns _)
  obtain ⟨RES, hRES⟩ : ∃ R, ((List.range ns.length).all (fun x => (ns.getD x 0).testBit x)) = R := ⟨_, rfl⟩
  rw [ET.out, hRES]
  have HRES := Lib.hid hRES
  clear h hb0 hk0 hr ET hRES
  go_enter Tryz.func132, Tryz.ntmps132
  go_wp2_with fail
  refine (impl_inverse_inM _ ns _ HS.out HN.out).mono ?_
  rintro e w1 ⟨u1, rfl, ho, hb⟩
  obtain ⟨A1, c1, rfl⟩ := ho.opn
  rw [EC.out] at ho ⊢
  have HS1 := Lib.hid (HS.out.below hb)
  have HK1 := Lib.hid (HK.out.below hb hkl)
  have HB1 := Lib.hid (HB.out.trans (hb.mono HB.out.size))
  have HO1 := Lib.hid ho.sl
  clear hb ho
  go_upto_region 2 with fail
  have hb2 := below_alloc' w1 (.cells #[.slice A1 ns.length c1] 27)
  have hk2 := HK1.out.below hb2 HK1.out.lt
  have hk3 := Blk.new w1 27 #[.slice A1 ns.length c1]
  have HB2 := Lib.hid (bthen HB1.out hb2)
  have HBx : Hid (Bx (w1.alloc (.cells #[.slice A1 ns.length c1] 27)) w.heap.size w1.heap.size ns A A1 c c1) := Lib.hid ⟨hk2.cell 0, hk2.cell 1, hk2.lt, hk3.cell 0, hk3.lt, HS1.out.below hb2, HO1.out.below hb2⟩
  clear hb2 HS1 HK1 HB1 HO1 hk2 hk3
  generalize w1.alloc (.cells #[.slice A1 ns.length c1] 27) = W at *
  have d0 := HBx.out.f0
  have d1 := HBx.out.f1
  have hlt := HBx.out.fl
  have HW := Lib.hid (impl_everyWorldM ns.length (.slice A ns.length c) A ns.length c rfl 182 #[.pointer (some ⟨w.heap.size, 0, none⟩)] (fun x => (ns.getD x 0).testBit x) W h8 en_hasFlag_114 (fun w' hw' i hi => by
    rw [show (#[Value.int .i64 (i : Int)] ++ #[.pointer (some ⟨w.heap.size, 0, none⟩)] : Array Value) = #[.int .i64 i, .pointer (some ⟨w.heap.size, 0, none⟩)] from rfl]
    exact impl_cond_1M i i i w.heap.size w1.heap.size ns A A1 c c1 w' (HBx.out.below hw') HN.out hi hi hi))
  rw [HRES.out] at HW
  go_wp2_with fail
  refine HW.out.mono ?_
  rintro e w4 ⟨rfl, hb⟩
  have HB6 := Lib.hid (bthen HB2.out hb)
  clear hb d0 d1
  go_wp2
  go_ret
  exact ⟨rfl, HB6.out⟩
set_option maxRecDepth 100000 in
theorem impl_hasFlag_814M (ns : List Nat) (v : Value) (w : World) (h : Sl cI w v (li ns)) (hr : RelM ns) :
    Calls Tryz.prog 132 #[.agg #[.int .i64 ns.length, v], .int .i64 8] w fun e w' => e = .returned (.bool (t3 ns (fun _ => true) (fun x y => !(!decide (x = y) && (ns.getD y 0).testBit x)) (fun _ _ _ => true))) ∧ Below w.heap.size w w' := by
  obtain ⟨A, c, rfl⟩ := h.opn
  have h8 := hr.1
  have EL := Lib.hid (li_length ns)
  rw [EL.out] at h ⊢
  have hb0 := below_alloc' w (.cells #[.int .i64 ns.length, .slice A ns.length c] 122)
  have hk0 := Blk.new w 122 #[.int .i64 ns.length, .slice A ns.length c]
  have hkl := hk0.lt
  have HK := Lib.hid hk0
  have HS := Lib.hid (h.below hb0)
  have HB := Lib.hid hb0
  have HN := Lib.hid hr
  have EC : Hid ((li (inv ns)).length = ns.length) := Lib.hid (by rw [li_length, inv_length])
  have ET : Hid (t3 ns (fun _ => true) (fun x y => !(!decide (x = y) && (ns.getD y 0).testBit x)) (fun _ _ _ => true) = (List.range ns.length).all (fun x => decide (andnot (ns.getD x 0 &&& (inv ns).getD x 0) (2 ^ x) = 0))) := Lib.hid ((f8_eqM ns hr).symm)
  obtain ⟨RES, hRES⟩ : ∃ R, ((List.range ns.length).all (fun x => decide (andnot (ns.getD x 0 &&& (inv ns).getD x 0) (2 ^ x) = 0))) = R := ⟨_, rfl⟩
  rw [ET.out, hRES]
  have HRES := Lib.hid hRES
  clear h hb0 hk0 hr ET hRES
  go_enter Tryz.func132, Tryz.ntmps132
  go_wp2_with fail
  refine (impl_inverse_inM _ ns _ HS.out HN.out).mono ?_
  rintro e w1 ⟨u1, rfl, ho, hb⟩
  obtain ⟨A1, c1, rfl⟩ := ho.opn
  rw [EC.out] at ho ⊢
  have HS1 := Lib.hid (HS.out.below hb)
  have HK1 := Lib.hid (HK.out.below hb hkl)
  have HB1 := Lib.hid (HB.out.trans (hb.mono HB.out.size))
  have HO1 := Lib.hid ho.sl
  clear hb ho
  go_upto_region 2 with fail
  have hb2 := below_alloc' w1 (.cells #[.slice A1 ns.length c1] 27)
  have hk2 := HK1.out.below hb2 HK1.out.lt
  have hk3 := Blk.new w1 27 #[.slice A1 ns.length c1]
  have HB2 := Lib.hid (bthen HB1.out hb2)
  have HBx : Hid (Bx (w1.alloc (.cells #[.slice A1 ns.length c1] 27)) w.heap.size w1.heap.size ns A A1 c c1) := Lib.hid ⟨hk2.cell 0, hk2.cell 1, hk2.lt, hk3.cell 0, hk3.lt, HS1.out.below hb2, HO1.out.below hb2⟩
  clear hb2 HS1 HK1 HB1 HO1 hk2 hk3
  generalize w1.alloc (.cells #[.slice A1 ns.length c1] 27) = W at *
  have d0 := HBx.out.f0
  have d1 := HBx.out.f1
  have hlt := HBx.out.fl
  have HW := Lib.hid (impl_everyWorldM ns.length (.slice A ns.length c) A ns.length c rfl 191 #[.pointer (some ⟨w.heap.size, 0, none⟩), .pointer (some ⟨w1.heap.size, 0, none⟩)] (fun x => decide (andnot (ns.getD x 0 &&& (inv ns).getD x 0) (2 ^ x) = 0)) W h8 en_hasFlag_714 (fun w' hw' i hi => by
    rw [show (#[Value.int .i64 (i : Int)] ++ #[.pointer (some ⟨w.heap.size, 0, none⟩), .pointer (some ⟨w1.heap.size, 0, none⟩)] : Array Value) = #[.int .i64 i, .pointer (some ⟨w.heap.size, 0, none⟩), .pointer (some ⟨w1.heap.size, 0, none⟩)] from rfl]
    exact impl_cond_7M i i i w.heap.size w1.heap.size ns A A1 c c1 w' (HBx.out.below hw') HN.out hi hi hi))
  rw [HRES.out] at HW
  go_wp2_with fail
  refine HW.out.mono ?_
  rintro e w4 ⟨rfl, hb⟩
  have HB6 := Lib.hid (bthen HB2.out hb)
  clear hb d0 d1
  go_wp2
  go_ret
  exact ⟨rfl, HB6.out⟩
/- A map from int64 to int64 that the call makes, in words of a finite function: what the walk of divided wants. -/
open Go.RowKit Go.Maps
theorem key_i64M {a : Nat} (h : a < 1073741824) : keyOf Tryz.prog 2 (.int .i64 (a : Int)) = some (.int .i64 (a : Int)) := keyOf_int_mk Tryz.underlying2 (wf_i64 (by omega))
/-- block M is a map of c entries that is f -/
def MpM (w : World) (M : Nat) (f : Nat → Option Nat) (c : Nat) : Prop :=
  ∃ (n : Nat) (D : DataW Unit), n ≤ c ∧ w.ownsMap Tryz.prog 2 (plainElem Tryz.prog 2) M n D ∧ Maps.size D = c ∧
    ∀ a : Nat, a < 1073741824 → Maps.has D (.int .i64 (a : Int)) = (f a).isSome ∧ ∀ x, f a = some x → D.atKey (.int .i64 (a : Int)) (.lit (.int .i64 0)) = .lit (.int .i64 (x : Int))
theorem MpM.made (w : World) : MpM (w.alloc (.map #[] 0)) w.heap.size (fun _ => none) 0 :=
  ⟨0, .map [], Nat.le_refl _, World.ownsMap_made w _ _ _, rfl, fun a _ => ⟨rfl, fun x hx => by cases hx⟩⟩
theorem MpM.lt {w : World} {M : Nat} {f : Nat → Option Nat} {c : Nat} (h : MpM w M f c) : M < w.heap.size := by
  obtain ⟨n, D, -, h, -⟩ := h
  exact h.lt
theorem MpM.grown {w w' : World} {row : Option Nat} {M : Nat} {f : Nat → Option Nat} {c : Nat} (h : MpM w M f c) (hg : w.grownBy w' row) (hne : some M ≠ row) : MpM w' M f c := by
  obtain ⟨n, D, h1, h2, h3⟩ := h
  exact ⟨n, D, h1, h2.kept hg hne, h3⟩
theorem MpM.setCell {w : World} {M : Nat} {f : Nat → Option Nat} {c : Nat} (h : MpM w M f c) {p : Addr} (hp : M ≠ p.block) (u : Value) : MpM (w.setCell p u) M f c := by
  obtain ⟨n, D, h1, h2, h3⟩ := h
  exact ⟨n, D, h1, h2.setCell hp u, h3⟩
theorem MpM.drew {w : World} {M : Nat} {f : Nat → Option Nat} {c : Nat} (h : MpM w M f c) : MpM w.drew M f c := h
theorem MpM.ok {w : World} {M : Nat} {f : Nat → Option Nat} {c : Nat} (h : MpM w M f c) {a : Nat} (ha : a < 1073741824) :
    ∃ x : Int, (Instr.lookup 150 (.map (some M)) (.int .i64 (a : Int)) true).run Tryz.prog w = .ok (.tuple #[.int .i64 x, .bool (f a).isSome]) w := by
  obtain ⟨n, D, h1, h2, h3, h4⟩ := h
  obtain ⟨v, ps, hrun, hv⟩ := h2.look_ok keyI Tryz.underlying150 (zeroI w) (plainElem_int Tryz.underlying2 (wf_i64 (by decide))) (key_i64M ha)
  obtain ⟨x, rfl, -, -⟩ := plainElem_int_inv Tryz.underlying2 hv
  exact ⟨x, by rw [← (h4 a ha).1]; exact hrun⟩
theorem MpM.get {w : World} {M : Nat} {f : Nat → Option Nat} {c : Nat} (h : MpM w M f c) {a x : Nat} (ha : a < 1073741824) (hx : f a = some x) :
    (Instr.lookup 150 (.map (some M)) (.int .i64 (a : Int)) false).run Tryz.prog w = .ok (.int .i64 (x : Int)) w := by
  obtain ⟨n, D, h1, h2, h3, h4⟩ := h
  obtain ⟨y, hrun, hat, -⟩ := h2.lookup_int keyI Tryz.underlying150 Tryz.underlying2 (zeroI w) (key_i64M ha)
  rw [(h4 a ha).2 x hx] at hat
  have hat2 : (x : Int) = y := by simpa using hat
  rw [hat2]
  exact hrun
theorem MpM.len {w : World} {M : Nat} {f : Nat → Option Nat} {c : Nat} (h : MpM w M f c) (ty : TypeId) : (Builtin.len_ #[150] ty #[.map (some M)]).run Tryz.prog w = .ok (.int .i64 (c : Int)) w := by
  obtain ⟨n, D, h1, h2, h3, h4⟩ := h
  have := h2.len Tryz.underlying150 ty
  rwa [h3] at this
theorem MpM.put {w : World} {M : Nat} {f : Nat → Option Nat} {c : Nat} (h : MpM w M f c) (hc : c ≤ 255) {a : Nat} (ha : a < 1073741824) (hn : f a = none) {x : Nat} (hx : x < 1073741824) :
    ∃ w', (Instr.mapUpdate 150 (.map (some M)) (.int .i64 (a : Int)) (.int .i64 (x : Int))).run Tryz.prog w = .ok () w' ∧ MpM w' M (fun b => if b = a then some x else f b) (c + 1) ∧ w.grownBy w' (some M) := by
  obtain ⟨n, D, h1, h2, h3, h4⟩ := h
  obtain ⟨w', hrun, hown, hg⟩ := h2.update keyI Tryz.underlying150 (by unfold maxLen; omega) (key_i64M ha) (plainElem_int Tryz.underlying2 (wf_i64 (a := (x : Int)) (by omega)))
  refine ⟨w', hrun, ⟨n + 1, _, by omega, hown, ?_, fun b hb => ?_⟩, hg⟩
  · rw [size_put (h2.tidy keyI), (h4 a ha).1, hn, h3]; rfl
  · by_cases he : b = a
    · subst he
      refine ⟨by rw [has_put_same h2.isMap (by trivial)]; simp, fun y hy => ?_⟩
      dsimp only at hy
      rw [if_pos rfl] at hy
      have hy2 : x = y := Option.some.inj hy
      rw [atKey_put_same h2.isMap (by trivial), hy2]
    · have hne : Lit.int .i64 (b : Int) ≠ Lit.int .i64 (a : Int) := fun e => by injection e with _ e; exact he (by omega)
      refine ⟨by rw [has_put_other hne, (h4 b hb).1]; dsimp only; rw [if_neg he], fun y hy => ?_⟩
      dsimp only at hy
      rw [if_neg he] at hy
      rw [atKey_put_other hne]
      exact (h4 b hb).2 y hy
set_option maxRecDepth 100000 in
theorem impl_add_knownM (p M : Nat) (f : Nat → Option Nat) (c key x : Nat) (v : Value) (xs : List Int) (B : Nat) (w : World) (hp : Blk w p 152 #[.map (some M), v]) (hm : MpM w M f c) (ho : Ow cI 2 B w v xs)
    (hpM : p ≠ M) (hpB : p < B) (hMB : M < B) (hBw : B ≤ w.heap.size) (hk : key < 1073741824) (hf : f key = some x) (hl : xs.length ≤ 1000) :
    Calls Tryz.prog 167 #[.pointer (some ⟨p, 0, none⟩), .int .i64 key] w
      fun e w' => e = .returned (.tuple #[]) ∧ ∃ v', Blk w' p 152 #[.map (some M), v'] ∧ MpM w' M f c ∧ Ow cI 2 B w' v' (xs ++ [(x : Int)]) ∧ ∀ L, L ≤ p → L ≤ M → L ≤ B → Below L w w' := by
  obtain ⟨A, cc, rfl⟩ := ho.opn
  obtain ⟨y, hrun⟩ := hm.ok hk
  rw [hf] at hrun
  have hget := hm.get hk hf
  have k0 := hp.cell
  have f0 := hp.frozen
  have l0 := hp.lt
  go_enter Tryz.func167, Tryz.ntmps167
  go_upto_region 3 with fail
  have hod := ho.below (Below.refl _ _).drew
  have hgd := (hm.drew).get hk hf
  have hpd : Blk w.drew p 152 #[.map (some M), .slice A xs.length cc] := hp
  have hl9 : (xs ++ [(x : Int)]).length = xs.length + 1 := by simp
  have hne : (some p : Option Nat) ≠ (Value.slice A xs.length cc).ownBlock := fun e => by have := (ho.block p e.symm).1; omega
  have hneM : (some M : Option Nat) ≠ (Value.slice A xs.length cc).ownBlock := fun e => by have := (ho.block M e.symm).1; omega
  have hBd : B ≤ w.drew.heap.size := hBw
  clear hrun
  go_region_law (refine step_one (K := cI) _ ty_int64 rfl _ _ rfl (B := B) (xs := xs) (by simp [Act.eval, Act.put]; done) hod (x : Int) rfl (by simp [Act.eval, Act.put]; done) (by omega) hBd ?_; intro v1 w5 ho1 hg1 hb1 hat1; obtain ⟨g9, c9, hv9, hg9, -⟩ := ho1.form (by simp); rw [hl9] at hv9; subst hv9; have hk9 := (hpd.alloc _).grown hg1 hne; have kc9 := hk9.cell; have kf9 := hk9.frozen; have kl9 := hk9.lt)
  all_goals
    have Y1 := Lib.hid (hk9.set_ 1 (.slice (some ⟨g9, 0, none⟩) (xs.length + 1) c9))
    have Y2 := Lib.hid ((((hm.drew).grown (World.grownBy_alloc _ _ none) (by simp)).grown hg1 hneM).setCell (p := ⟨p, 1, none⟩) (fun e => hpM e.symm) (.slice (some ⟨g9, 0, none⟩) (xs.length + 1) c9))
    have Y3 := Lib.hid (ho1.setBelow (p := ⟨p, 1, none⟩) hpB (.slice (some ⟨g9, 0, none⟩) (xs.length + 1) c9))
    have Y4 := Lib.hid (fun (L : Nat) (h1 : L ≤ p) (_ : L ≤ M) (h3 : L ≤ B) => (((Below.refl L w).drew).trans (hb1.mono h3)).setCell (p := ⟨p, 1, none⟩) h1 (.slice (some ⟨g9, 0, none⟩) (xs.length + 1) c9))
    clear ho1 hg1 hb1 hat1 hk9 kc9 kf9
    go_wp2
    refine ⟨rfl, .tuple #[], ?_, rfl, _, Y1.out, Y2.out, Y3.out, Y4.out⟩
    first | rfl | kernel_rfl | (simp [results, Tryz.results167, go_sem]; done)
set_option maxRecDepth 100000 in
theorem impl_add_newM (p M : Nat) (f : Nat → Option Nat) (c key : Nat) (v : Value) (xs : List Int) (B : Nat) (w : World) (hp : Blk w p 152 #[.map (some M), v]) (hm : MpM w M f c) (ho : Ow cI 2 B w v xs)
    (hpM : p ≠ M) (hpB : p < B) (hMB : M < B) (hBw : B ≤ w.heap.size) (hk : key < 1073741824) (hf : f key = none) (hc : c ≤ 255) (hl : xs.length ≤ 1000) :
    Calls Tryz.prog 167 #[.pointer (some ⟨p, 0, none⟩), .int .i64 key] w
      fun e w' => e = .returned (.tuple #[]) ∧ ∃ v', Blk w' p 152 #[.map (some M), v'] ∧ MpM w' M (fun b => if b = key then some c else f b) (c + 1) ∧ Ow cI 2 B w' v' (xs ++ [(c : Int)]) ∧ ∀ L, L ≤ p → L ≤ M → L ≤ B → Below L w w' := by
  obtain ⟨A, cc, rfl⟩ := ho.opn
  obtain ⟨y, hrun⟩ := hm.ok hk
  rw [hf] at hrun
  have k0 := hp.cell
  have f0 := hp.frozen
  have l0 := hp.lt
  obtain ⟨w2, hrun2, hm2, hg2⟩ := (hm.drew).put hc hk hf (x := c) (by omega)
  have hlen := fun ty => (hm.drew).len ty
  go_enter Tryz.func167, Tryz.ntmps167
  go_upto_region 2 with fail
  go_still_tail 10, (by kernel_rfl)
  go_upto_region 3 with fail
  have hz2 : w.heap.size ≤ w2.heap.size := hg2.size
  have hp2 : Blk w2 p 152 #[.map (some M), .slice A xs.length cc] := Blk.grown (w := w.drew) hp hg2 (fun e => hpM (by injection e))
  have ho2 := ((ho.below (Below.refl _ _).drew).ob.keep (Keep.of_grown hg2 (fun k hk => by injection hk with e; subst e; exact ⟨Nat.le_refl _, Nat.lt_succ_self _⟩)) (.inr (by omega))).1
  have HB2 := Lib.hid (fun (L : Nat) (h2 : L ≤ M) => ((Below.refl L w).drew).grown hg2 (by have := hm.lt; show L ≤ w.heap.size; omega) (fun k hk => by injection hk with e; omega))
  clear k0 f0 l0 hrun2 hlen
  have k0 := hp2.cell
  have f0 := hp2.frozen
  have l0 := hp2.lt
  have hod := ho2.below (Below.refl _ _).drew
  have hgd := (hm2.drew).get hk (x := c) (by simp)
  have hpd : Blk w2.drew p 152 #[.map (some M), .slice A xs.length cc] := hp2
  have hl9 : (xs ++ [(c : Int)]).length = xs.length + 1 := by simp
  have hne : (some p : Option Nat) ≠ (Value.slice A xs.length cc).ownBlock := fun e => by have := (ho2.block p e.symm).1; omega
  have hneM : (some M : Option Nat) ≠ (Value.slice A xs.length cc).ownBlock := fun e => by have := (ho2.block M e.symm).1; omega
  have hBd : B ≤ w2.drew.heap.size := Nat.le_trans hBw hz2
  clear hrun
  go_region_law (refine step_one (K := cI) _ ty_int64 rfl _ _ rfl (B := B) (xs := xs) (by simp [Act.eval, Act.put]; done) hod (c : Int) rfl (by simp [Act.eval, Act.put]; done) (by omega) hBd ?_; intro v1 w5 ho1 hg1 hb1 hat1; obtain ⟨g9, c9, hv9, hg9, -⟩ := ho1.form (by simp); rw [hl9] at hv9; subst hv9; have hk9 := (hpd.alloc _).grown hg1 hne; have kc9 := hk9.cell; have kf9 := hk9.frozen; have kl9 := hk9.lt)
  all_goals
    have Y1 := Lib.hid (hk9.set_ 1 (.slice (some ⟨g9, 0, none⟩) (xs.length + 1) c9))
    have Y2 := Lib.hid ((((hm2.drew).grown (World.grownBy_alloc _ _ none) (by simp)).grown hg1 hneM).setCell (p := ⟨p, 1, none⟩) (fun e => hpM e.symm) (.slice (some ⟨g9, 0, none⟩) (xs.length + 1) c9))
    have Y3 := Lib.hid (ho1.setBelow (p := ⟨p, 1, none⟩) hpB (.slice (some ⟨g9, 0, none⟩) (xs.length + 1) c9))
    have Y4 := Lib.hid (fun (L : Nat) (h1 : L ≤ p) (h2 : L ≤ M) (h3 : L ≤ B) => ((((HB2.out L h2)).drew).trans (hb1.mono h3)).setCell (p := ⟨p, 1, none⟩) h1 (.slice (some ⟨g9, 0, none⟩) (xs.length + 1) c9))
    clear ho1 hg1 hb1 hat1 hk9 kc9 kf9
    go_wp2
    refine ⟨rfl, .tuple #[], ?_, rfl, _, Y1.out, Y2.out, Y3.out, Y4.out⟩
    first | rfl | kernel_rfl | (simp [results, Tryz.results167, go_sem]; done)
set_option maxRecDepth 100000 in
theorem impl_dividedM (v : Value) (ks : List Nat) (w : World) (h : Sl cI w v (li ks)) (hk : ∀ i, ks.getD i 0 < 1073741824) (hl : ks.length ≤ 200) :
    Calls Tryz.prog 117 #[v] w fun e w' => ∃ u, e = .returned u ∧ Ow cI 2 w.heap.size w' u (li (dvd (fun y => ks.getD y 0) ks.length).1) ∧ Below w.heap.size w w' := by
  obtain ⟨A, c, rfl⟩ := h.opn
  have hmm := @run_makeMap Tryz.prog
  go_enter Tryz.func117, Tryz.ntmps117
  go_upto_region 2 with fail
  have HM : Hid (MpM ((w.alloc (.map #[] 0)).alloc (.cells #[.map (some w.heap.size), .slice none 0 0] 152)) w.heap.size (fst (fun y => ks.getD y 0) 0) 0) := Lib.hid ((MpM.made w).grown (World.grownBy_alloc _ _ none) (by simp))
  have HP : Hid (Blk ((w.alloc (.map #[] 0)).alloc (.cells #[.map (some w.heap.size), .slice none 0 0] 152)) (w.heap.size + 1) 152 #[.map (some w.heap.size), .slice none 0 0]) := Lib.hid (Blk.new' (w.alloc (.map #[] 0)) _ _ (by simp))
  have HB : Hid (Below w.heap.size w ((w.alloc (.map #[] 0)).alloc (.cells #[.map (some w.heap.size), .slice none 0 0] 152))) := Lib.hid (((Below.refl _ _).alloc (Nat.le_refl _) _).alloc (by simp) _)
  have HZ : Hid (((w.alloc (.map #[] 0)).alloc (.cells #[.map (some w.heap.size), .slice none 0 0] 152)).heap.size = w.heap.size + 2) := Lib.hid (by simp)
  have HL := Lib.hid (li_length ks)
  have HK := Lib.hid hk
  have HS := Lib.hid h
  rw [HL.out] at HS ⊢
  have HQ := Lib.hid hmm
  clear hmm hk h
  generalize World.alloc (w.alloc (.map #[] 0)) _ = W at *
  go_wp2
  go_loopw [10] (fun i wr => ∃ j : Nat, j ≤ ks.length ∧ i = .int .i64 j ∧ Below w.heap.size w wr ∧ w.heap.size + 2 ≤ wr.heap.size ∧ MpM wr w.heap.size (fst (fun y => ks.getD y 0) j) (dvd (fun y => ks.getD y 0) j).2 ∧
      ∃ v', Blk wr (w.heap.size + 1) 152 #[.map (some w.heap.size), v'] ∧ Ow cI 2 (w.heap.size + 2) wr v' (li (dvd (fun y => ks.getD y 0) j).1)) (fun i _ => ks.length - (intOf i).toNat)
  case atStart => exact ⟨0, Nat.zero_le _, rfl, HB.out, by rw [HZ.out]; exact Nat.le_refl _, HM.out, _, HP.out, Ow.nil _ _⟩
  case round =>
    obtain ⟨j, hj, rfl, hb, hz, hm, v', hp, ho⟩ := hrel
    have HBx := Lib.hid hb
    have HMx := Lib.hid hm
    have HPx := Lib.hid hp
    have HOx := Lib.hid ho
    by_cases hlt : j < ks.length
    · have hlt' : j < (li ks).length := by rw [HL.out]; exact hlt
      obtain ⟨b, o, rfl, hbl, hc0⟩ := (show Sl cI w (.slice A (li ks).length c) (li ks) by rw [HL.out]; exact HS.out).below hb |>.atI hlt'
      rw [li_get] at hc0
      have hk := HK.out j
      have hcnt := dvd_count (fun y => ks.getD y 0) j
      have hln : (li (dvd (fun y => ks.getD y 0) j).1).length ≤ 1000 := by rw [li_length, dvd_length]; omega
      have C : Hid (Calls Tryz.prog 167 #[.pointer (some ⟨w.heap.size + 1, 0, none⟩), .int .i64 (ks.getD j 0 : Nat)] wr fun e w' => e = .returned (.tuple #[]) ∧ Below w.heap.size wr w' ∧ w.heap.size + 2 ≤ w'.heap.size ∧ MpM w' w.heap.size (fst (fun y => ks.getD y 0) (j + 1)) (dvd (fun y => ks.getD y 0) (j + 1)).2 ∧
          ∃ v', Blk w' (w.heap.size + 1) 152 #[.map (some w.heap.size), v'] ∧ Ow cI 2 (w.heap.size + 2) w' v' (li (dvd (fun y => ks.getD y 0) (j + 1)).1)) := by
        refine Lib.hid ?_
        cases hf : (List.range j).find? (fun z => decide (ks.getD z 0 = ks.getD j 0)) with
        | some y =>
          have e1 : dvd (fun y => ks.getD y 0) (j + 1) = ((dvd (fun y => ks.getD y 0) j).1 ++ [(dvd (fun y => ks.getD y 0) j).1.getD y 0], (dvd (fun y => ks.getD y 0) j).2) := by rw [dvd, hf]
          have e2 := fst_step_known (key := fun y => ks.getD y 0) hf
          refine (impl_add_knownM (w.heap.size + 1) w.heap.size _ _ _ _ _ _ (w.heap.size + 2) wr HPx.out HMx.out HOx.out (by omega) (by omega) (by omega) hz hk (fst_known (key := fun y => ks.getD y 0) hf) hln).mono fun e w' ⟨he, v', h1, h2, h3, h4⟩ => ?_
          have h5 := h4 w.heap.size (by omega) (Nat.le_refl _) (by omega)
          refine ⟨he, h5, Nat.le_trans hz h5.size, ?_, v', h1, ?_⟩
          · rw [e1, e2]; exact h2
          · rw [e1]; rw [li_append]; exact h3
        | none =>
          have e1 : dvd (fun y => ks.getD y 0) (j + 1) = ((dvd (fun y => ks.getD y 0) j).1 ++ [(dvd (fun y => ks.getD y 0) j).2], (dvd (fun y => ks.getD y 0) j).2 + 1) := by rw [dvd, hf]
          have e2 := fst_step_new (key := fun y => ks.getD y 0) hf
          refine (impl_add_newM (w.heap.size + 1) w.heap.size _ _ _ _ _ (w.heap.size + 2) wr HPx.out HMx.out HOx.out (by omega) (by omega) (by omega) hz hk (fst_new (key := fun y => ks.getD y 0) hf) (by omega) hln).mono fun e w' ⟨he, v', h1, h2, h3, h4⟩ => ?_
          have h5 := h4 w.heap.size (by omega) (Nat.le_refl _) (by omega)
          refine ⟨he, h5, Nat.le_trans hz h5.size, ?_, v', h1, ?_⟩
          · rw [e1, e2]; exact h2
          · rw [e1]; rw [li_append]; exact h3
      clear hb hm hp ho hln hcnt
      obtain ⟨q, hq⟩ : ∃ q, ks.getD j 0 = q := ⟨_, rfl⟩
      rw [hq] at hc0 C
      clear hq hk
      go_wp2_with fail
      refine C.out.mono ?_
      rintro e w1 ⟨rfl, h5, hz1, hm1, v1, hp1, ho1⟩
      have HM1 := Lib.hid hm1
      have HP1 := Lib.hid hp1
      have HO1 := Lib.hid ho1
      have HB1 := Lib.hid h5
      clear hm1 hp1 ho1 h5
      go_wp2
      go_roundw
      case rel => exact ⟨j + 1, by omega, by go_num, HBx.out.trans HB1.out, hz1, HM1.out, _, HP1.out, HO1.out⟩
      case measure => simp [intOf]; omega
    · obtain rfl : j = ks.length := by omega
      have k0 := hp.cell
      have l0 := hp.lt
      obtain ⟨Av, cv, rfl⟩ := ho.opn
      clear hb hm hp ho
      go_wp2
      go_ret
      exact ⟨_, rfl, HOx.out.mono (by omega), HBx.out⟩
theorem impl_classesOfM (v : Value) (ks : List Nat) (w : World) (h : Sl cI w v (li ks)) (hk : ∀ i, ks.getD i 0 < 1073741824) (hl : ks.length ≤ 200) :
    Calls Tryz.prog 75 #[v] w fun e w' => ∃ u, e = .returned u ∧ Ow cI 2 w.heap.size w' u (li (dvd (fun y => ks.getD y 0) ks.length).1) ∧ Below w.heap.size w w' := by
  obtain ⟨A, c, rfl⟩ := h.opn
  have HC := Lib.hid (impl_dividedM _ ks w h hk hl)
  clear h hk
  go_enter Tryz.func75, Tryz.ntmps75
  go_wp2_with fail
  refine HC.out.mono ?_
  rintro e w1 ⟨u, rfl, ho, hb⟩
  obtain ⟨Av, cv, rfl⟩ := ho.opn
  have HO := Lib.hid ho
  have HB := Lib.hid hb
  clear ho hb
  go_wp2
  go_ret
  exact ⟨_, rfl, HO.out, HB.out⟩
end Go.Proofs.YtgkogfjifcfkoaaGreat
